/-
  No cell of these rows narrows 'for every input' (looked for: loops, veiled, ifaces, maps, wideKeys, modest, calm, conditions, laid).
  DERIVED. THE GIVEN ROWS OF THIS SEAT. 12 by the template 'for every input the law returns true; each argument reads behind the call as it read before'; 0 by the template 'total and deterministic' (their statements: YtbiaamipfhgfeaaTotals.lean).
  GIVEN WITH THE SEED: the statements are not yours to turn. If you find one false, say at which input.
  Laid BY PROGRAM, IN A SANDBOX (cutbox-rows.mjs): the forced cells as the released guide's own fill.sh prints them over the translation 76daa63db0cff745… (all of the seat's roots in one cut). By AI agents, Wed Nov 11 2026. No macro, syntax, notation, axiom, sorry.
-/
import Derived.Test.YtbiaamipfhgfeaaChecked
import GoSem.Claim
import GoSem.ClaimJoined
import GoSem.ClaimMapViews
import Derived.JoinedTies
import Derived.KernelRfl
namespace Go.Proofs.Ytbiaamipfhgfeaa
/- THE CELL 'sum', in the pinned program and in every row, IS THE sha256 OF THE DUMP (.gsa) THAT YtbiaamipfhgfeaaProg.lean LOADS. Nothing in Lean hashes anything: it is a label: what it is worth is what the hold of that sum in a sandbox is worth. -/
noncomputable def Try.pinned : Pinned := { name := "ytbiaamipfhgfeaa", sum := "76daa63db0cff7456235ea0dbac815629c62c734fec2a706ccc25fb2f899771a", checked := Try.checked }
namespace Rows
def none {H : Type} : Left H := { results := [], args := [] }

/-- 'laws.FnHasGroup': WHATEVER THE INPUT: true; the input reads as it did. -/
def fnHasGroupSpec : ChangeSpec := { name := "fnHasGroup", fn := fun _ => fun
  | [d] => { results := [.lit (.bool true)], args := [d] }
  | _ => none }
def fnHasGroupRow : OpenClaim := { program := "ytbiaamipfhgfeaa", sum := "76daa63db0cff7456235ea0dbac815629c62c734fec2a706ccc25fb2f899771a", func := "loop.example/userspaces/laws.FnHasGroup", spec := "fnHasGroup", apart := false }
def FnHasGroupSaid : Prop := fnHasGroupRow.holds Try.pinned (OpenSpec.ofChange fnHasGroupSpec)

/-- ITS FALSE NEIGHBOUR: 'it returns false'. Refute it at one input. -/
def fnHasGroupWrong : ChangeSpec := { name := "fnHasGroup", fn := fun _ => fun
  | [d] => { results := [.lit (.bool false)], args := [d] }
  | _ => none }
def FnHasGroupWrongFalsely : Prop := fnHasGroupRow.holds Try.pinned (OpenSpec.ofChange fnHasGroupWrong)

/-- 'laws.FnFaultText': WHATEVER THE INPUT: true; the input reads as it did. -/
def fnFaultTextSpec : ChangeSpec := { name := "fnFaultText", fn := fun _ => fun
  | [d] => { results := [.lit (.bool true)], args := [d] }
  | _ => none }
def fnFaultTextRow : OpenClaim := { program := "ytbiaamipfhgfeaa", sum := "76daa63db0cff7456235ea0dbac815629c62c734fec2a706ccc25fb2f899771a", func := "loop.example/userspaces/laws.FnFaultText", spec := "fnFaultText", apart := false }
def FnFaultTextSaid : Prop := fnFaultTextRow.holds Try.pinned (OpenSpec.ofChange fnFaultTextSpec)

/-- ITS FALSE NEIGHBOUR: 'it returns false'. Refute it at one input. -/
def fnFaultTextWrong : ChangeSpec := { name := "fnFaultText", fn := fun _ => fun
  | [d] => { results := [.lit (.bool false)], args := [d] }
  | _ => none }
def FnFaultTextWrongFalsely : Prop := fnFaultTextRow.holds Try.pinned (OpenSpec.ofChange fnFaultTextWrong)

/-- 'laws.FnNameValid': WHATEVER THE INPUT: true; the input reads as it did. -/
def fnNameValidSpec : ChangeSpec := { name := "fnNameValid", fn := fun _ => fun
  | [d] => { results := [.lit (.bool true)], args := [d] }
  | _ => none }
def fnNameValidRow : OpenClaim := { program := "ytbiaamipfhgfeaa", sum := "76daa63db0cff7456235ea0dbac815629c62c734fec2a706ccc25fb2f899771a", func := "loop.example/userspaces/laws.FnNameValid", spec := "fnNameValid", apart := false }
def FnNameValidSaid : Prop := fnNameValidRow.holds Try.pinned (OpenSpec.ofChange fnNameValidSpec)

/-- ITS FALSE NEIGHBOUR: 'it returns false'. Refute it at one input. -/
def fnNameValidWrong : ChangeSpec := { name := "fnNameValid", fn := fun _ => fun
  | [d] => { results := [.lit (.bool false)], args := [d] }
  | _ => none }
def FnNameValidWrongFalsely : Prop := fnNameValidRow.holds Try.pinned (OpenSpec.ofChange fnNameValidWrong)

/-- 'laws.FnMaskMode': WHATEVER THE INPUT: true; the input reads as it did. -/
def fnMaskModeSpec : ChangeSpec := { name := "fnMaskMode", fn := fun _ => fun
  | [d] => { results := [.lit (.bool true)], args := [d] }
  | _ => none }
def fnMaskModeRow : OpenClaim := { program := "ytbiaamipfhgfeaa", sum := "76daa63db0cff7456235ea0dbac815629c62c734fec2a706ccc25fb2f899771a", func := "loop.example/userspaces/laws.FnMaskMode", spec := "fnMaskMode", apart := false }
def FnMaskModeSaid : Prop := fnMaskModeRow.holds Try.pinned (OpenSpec.ofChange fnMaskModeSpec)

/-- ITS FALSE NEIGHBOUR: 'it returns false'. Refute it at one input. -/
def fnMaskModeWrong : ChangeSpec := { name := "fnMaskMode", fn := fun _ => fun
  | [d] => { results := [.lit (.bool false)], args := [d] }
  | _ => none }
def FnMaskModeWrongFalsely : Prop := fnMaskModeRow.holds Try.pinned (OpenSpec.ofChange fnMaskModeWrong)

/-- 'laws.FnRightsFor': WHATEVER THE INPUT: true; the input reads as it did. -/
def fnRightsForSpec : ChangeSpec := { name := "fnRightsFor", fn := fun _ => fun
  | [d] => { results := [.lit (.bool true)], args := [d] }
  | _ => none }
def fnRightsForRow : OpenClaim := { program := "ytbiaamipfhgfeaa", sum := "76daa63db0cff7456235ea0dbac815629c62c734fec2a706ccc25fb2f899771a", func := "loop.example/userspaces/laws.FnRightsFor", spec := "fnRightsFor", apart := false }
def FnRightsForSaid : Prop := fnRightsForRow.holds Try.pinned (OpenSpec.ofChange fnRightsForSpec)

/-- ITS FALSE NEIGHBOUR: 'it returns false'. Refute it at one input. -/
def fnRightsForWrong : ChangeSpec := { name := "fnRightsFor", fn := fun _ => fun
  | [d] => { results := [.lit (.bool false)], args := [d] }
  | _ => none }
def FnRightsForWrongFalsely : Prop := fnRightsForRow.holds Try.pinned (OpenSpec.ofChange fnRightsForWrong)

/-- 'laws.FnCredValid': WHATEVER THE INPUT: true; the input reads as it did. -/
def fnCredValidSpec : ChangeSpec := { name := "fnCredValid", fn := fun _ => fun
  | [d] => { results := [.lit (.bool true)], args := [d] }
  | _ => none }
def fnCredValidRow : OpenClaim := { program := "ytbiaamipfhgfeaa", sum := "76daa63db0cff7456235ea0dbac815629c62c734fec2a706ccc25fb2f899771a", func := "loop.example/userspaces/laws.FnCredValid", spec := "fnCredValid", apart := false }
def FnCredValidSaid : Prop := fnCredValidRow.holds Try.pinned (OpenSpec.ofChange fnCredValidSpec)

/-- ITS FALSE NEIGHBOUR: 'it returns false'. Refute it at one input. -/
def fnCredValidWrong : ChangeSpec := { name := "fnCredValid", fn := fun _ => fun
  | [d] => { results := [.lit (.bool false)], args := [d] }
  | _ => none }
def FnCredValidWrongFalsely : Prop := fnCredValidRow.holds Try.pinned (OpenSpec.ofChange fnCredValidWrong)

/-- 'laws.FnSetUser': WHATEVER THE INPUT: true; the input reads as it did. -/
def fnSetUserSpec : ChangeSpec := { name := "fnSetUser", fn := fun _ => fun
  | [d] => { results := [.lit (.bool true)], args := [d] }
  | _ => none }
def fnSetUserRow : OpenClaim := { program := "ytbiaamipfhgfeaa", sum := "76daa63db0cff7456235ea0dbac815629c62c734fec2a706ccc25fb2f899771a", func := "loop.example/userspaces/laws.FnSetUser", spec := "fnSetUser", apart := false }
def FnSetUserSaid : Prop := fnSetUserRow.holds Try.pinned (OpenSpec.ofChange fnSetUserSpec)

/-- ITS FALSE NEIGHBOUR: 'it returns false'. Refute it at one input. -/
def fnSetUserWrong : ChangeSpec := { name := "fnSetUser", fn := fun _ => fun
  | [d] => { results := [.lit (.bool false)], args := [d] }
  | _ => none }
def FnSetUserWrongFalsely : Prop := fnSetUserRow.holds Try.pinned (OpenSpec.ofChange fnSetUserWrong)

/-- 'laws.FnActAs': WHATEVER THE INPUT: true; the input reads as it did. -/
def fnActAsSpec : ChangeSpec := { name := "fnActAs", fn := fun _ => fun
  | [d] => { results := [.lit (.bool true)], args := [d] }
  | _ => none }
def fnActAsRow : OpenClaim := { program := "ytbiaamipfhgfeaa", sum := "76daa63db0cff7456235ea0dbac815629c62c734fec2a706ccc25fb2f899771a", func := "loop.example/userspaces/laws.FnActAs", spec := "fnActAs", apart := false }
def FnActAsSaid : Prop := fnActAsRow.holds Try.pinned (OpenSpec.ofChange fnActAsSpec)

/-- ITS FALSE NEIGHBOUR: 'it returns false'. Refute it at one input. -/
def fnActAsWrong : ChangeSpec := { name := "fnActAs", fn := fun _ => fun
  | [d] => { results := [.lit (.bool false)], args := [d] }
  | _ => none }
def FnActAsWrongFalsely : Prop := fnActAsRow.holds Try.pinned (OpenSpec.ofChange fnActAsWrong)

/-- 'laws.FnModeText': WHATEVER THE INPUT: true; the input reads as it did. -/
def fnModeTextSpec : ChangeSpec := { name := "fnModeText", fn := fun _ => fun
  | [d] => { results := [.lit (.bool true)], args := [d] }
  | _ => none }
def fnModeTextRow : OpenClaim := { program := "ytbiaamipfhgfeaa", sum := "76daa63db0cff7456235ea0dbac815629c62c734fec2a706ccc25fb2f899771a", func := "loop.example/userspaces/laws.FnModeText", spec := "fnModeText", apart := false }
def FnModeTextSaid : Prop := fnModeTextRow.holds Try.pinned (OpenSpec.ofChange fnModeTextSpec)

/-- ITS FALSE NEIGHBOUR: 'it returns false'. Refute it at one input. -/
def fnModeTextWrong : ChangeSpec := { name := "fnModeText", fn := fun _ => fun
  | [d] => { results := [.lit (.bool false)], args := [d] }
  | _ => none }
def FnModeTextWrongFalsely : Prop := fnModeTextRow.holds Try.pinned (OpenSpec.ofChange fnModeTextWrong)

/-- 'laws.FnRunAs': WHATEVER THE INPUT: true; the input reads as it did. -/
def fnRunAsSpec : ChangeSpec := { name := "fnRunAs", fn := fun _ => fun
  | [d] => { results := [.lit (.bool true)], args := [d] }
  | _ => none }
def fnRunAsRow : OpenClaim := { program := "ytbiaamipfhgfeaa", sum := "76daa63db0cff7456235ea0dbac815629c62c734fec2a706ccc25fb2f899771a", func := "loop.example/userspaces/laws.FnRunAs", spec := "fnRunAs", apart := false }
def FnRunAsSaid : Prop := fnRunAsRow.holds Try.pinned (OpenSpec.ofChange fnRunAsSpec)

/-- ITS FALSE NEIGHBOUR: 'it returns false'. Refute it at one input. -/
def fnRunAsWrong : ChangeSpec := { name := "fnRunAs", fn := fun _ => fun
  | [d] => { results := [.lit (.bool false)], args := [d] }
  | _ => none }
def FnRunAsWrongFalsely : Prop := fnRunAsRow.holds Try.pinned (OpenSpec.ofChange fnRunAsWrong)

/-- 'laws.FnClassOf': WHATEVER THE INPUT: true; the input reads as it did. -/
def fnClassOfSpec : ChangeSpec := { name := "fnClassOf", fn := fun _ => fun
  | [d] => { results := [.lit (.bool true)], args := [d] }
  | _ => none }
def fnClassOfRow : OpenClaim := { program := "ytbiaamipfhgfeaa", sum := "76daa63db0cff7456235ea0dbac815629c62c734fec2a706ccc25fb2f899771a", func := "loop.example/userspaces/laws.FnClassOf", spec := "fnClassOf", apart := false }
def FnClassOfSaid : Prop := fnClassOfRow.holds Try.pinned (OpenSpec.ofChange fnClassOfSpec)

/-- ITS FALSE NEIGHBOUR: 'it returns false'. Refute it at one input. -/
def fnClassOfWrong : ChangeSpec := { name := "fnClassOf", fn := fun _ => fun
  | [d] => { results := [.lit (.bool false)], args := [d] }
  | _ => none }
def FnClassOfWrongFalsely : Prop := fnClassOfRow.holds Try.pinned (OpenSpec.ofChange fnClassOfWrong)

/-- 'laws.FnReadMode': WHATEVER THE INPUT: true; the input reads as it did. -/
def fnReadModeSpec : ChangeSpec := { name := "fnReadMode", fn := fun _ => fun
  | [d] => { results := [.lit (.bool true)], args := [d] }
  | _ => none }
def fnReadModeRow : OpenClaim := { program := "ytbiaamipfhgfeaa", sum := "76daa63db0cff7456235ea0dbac815629c62c734fec2a706ccc25fb2f899771a", func := "loop.example/userspaces/laws.FnReadMode", spec := "fnReadMode", apart := false }
def FnReadModeSaid : Prop := fnReadModeRow.holds Try.pinned (OpenSpec.ofChange fnReadModeSpec)

/-- ITS FALSE NEIGHBOUR: 'it returns false'. Refute it at one input. -/
def fnReadModeWrong : ChangeSpec := { name := "fnReadMode", fn := fun _ => fun
  | [d] => { results := [.lit (.bool false)], args := [d] }
  | _ => none }
def FnReadModeWrongFalsely : Prop := fnReadModeRow.holds Try.pinned (OpenSpec.ofChange fnReadModeWrong)

/- THE SECOND FORM. 'bulk': how many values and letters a reading holds, each counted each time it is reached (what is shared counts as often as it is met; a slice's spare places count too). A statement '..UptoSaid' is the law's where the arguments, and the package variables that the reading takes, are together of bulk at most 1048576: NARROWER than '..Said'. Prove '..Said' where nothing that the law and all that it calls make is longer than what came in: it says more and counts as full. Else prove '..UptoSaid'. A law counts once. -/
mutual
def uptoBulk {H : Type} : DataW H → Nat
  | .lit (.string bytes) => bytes.length + 1
  | .lit _ => 1
  | .nil => 1
  | .ptr d => uptoBulk d + 1
  | .slice elems spare => uptoBulkAll elems + uptoBulkAll spare + 1
  | .agg parts => uptoBulkAll parts + 1
  | .iface _ d => uptoBulk d + 1
  | .map entries => uptoBulkEntries entries + 1
  | .held _ => 1
def uptoBulkAll {H : Type} : List (DataW H) → Nat
  | [] => 0
  | d :: r => uptoBulk d + uptoBulkAll r
def uptoBulkEntries {H : Type} : List (Lit × DataW H) → Nat
  | [] => 0
  | x :: r => uptoBulkEntry x + uptoBulkEntries r
def uptoBulkEntry {H : Type} : Lit × DataW H → Nat
  | (.string bytes, d) => bytes.length + uptoBulk d + 1
  | (_, d) => uptoBulk d + 1
 end
def uptoSmall : (H : Type) → List (DataW H) → Bool := fun _ ds => decide (uptoBulkAll ds ≤ 1048576)
def OpenSpec.upto (s : _root_.Go.ChangeSpec) : _root_.Go.OpenSpec := { _root_.Go.OpenSpec.ofChange s with cond := some uptoSmall }

/-- 'laws.FnHasGroup', WHERE WHAT IT READS IS OF BULK AT MOST 1048576: true; the input reads as it did. -/
def fnHasGroupUptoRow : OpenClaim := { program := "ytbiaamipfhgfeaa", sum := "76daa63db0cff7456235ea0dbac815629c62c734fec2a706ccc25fb2f899771a", func := "loop.example/userspaces/laws.FnHasGroup", spec := "fnHasGroup", apart := false, narrowed := true }
def FnHasGroupUptoSaid : Prop := fnHasGroupUptoRow.holds Try.pinned (OpenSpec.upto fnHasGroupSpec)

/-- 'laws.FnFaultText', WHERE WHAT IT READS IS OF BULK AT MOST 1048576: true; the input reads as it did. -/
def fnFaultTextUptoRow : OpenClaim := { program := "ytbiaamipfhgfeaa", sum := "76daa63db0cff7456235ea0dbac815629c62c734fec2a706ccc25fb2f899771a", func := "loop.example/userspaces/laws.FnFaultText", spec := "fnFaultText", apart := false, narrowed := true }
def FnFaultTextUptoSaid : Prop := fnFaultTextUptoRow.holds Try.pinned (OpenSpec.upto fnFaultTextSpec)

/-- 'laws.FnNameValid', WHERE WHAT IT READS IS OF BULK AT MOST 1048576: true; the input reads as it did. -/
def fnNameValidUptoRow : OpenClaim := { program := "ytbiaamipfhgfeaa", sum := "76daa63db0cff7456235ea0dbac815629c62c734fec2a706ccc25fb2f899771a", func := "loop.example/userspaces/laws.FnNameValid", spec := "fnNameValid", apart := false, narrowed := true }
def FnNameValidUptoSaid : Prop := fnNameValidUptoRow.holds Try.pinned (OpenSpec.upto fnNameValidSpec)

/-- 'laws.FnMaskMode', WHERE WHAT IT READS IS OF BULK AT MOST 1048576: true; the input reads as it did. -/
def fnMaskModeUptoRow : OpenClaim := { program := "ytbiaamipfhgfeaa", sum := "76daa63db0cff7456235ea0dbac815629c62c734fec2a706ccc25fb2f899771a", func := "loop.example/userspaces/laws.FnMaskMode", spec := "fnMaskMode", apart := false, narrowed := true }
def FnMaskModeUptoSaid : Prop := fnMaskModeUptoRow.holds Try.pinned (OpenSpec.upto fnMaskModeSpec)

/-- 'laws.FnRightsFor', WHERE WHAT IT READS IS OF BULK AT MOST 1048576: true; the input reads as it did. -/
def fnRightsForUptoRow : OpenClaim := { program := "ytbiaamipfhgfeaa", sum := "76daa63db0cff7456235ea0dbac815629c62c734fec2a706ccc25fb2f899771a", func := "loop.example/userspaces/laws.FnRightsFor", spec := "fnRightsFor", apart := false, narrowed := true }
def FnRightsForUptoSaid : Prop := fnRightsForUptoRow.holds Try.pinned (OpenSpec.upto fnRightsForSpec)

/-- 'laws.FnCredValid', WHERE WHAT IT READS IS OF BULK AT MOST 1048576: true; the input reads as it did. -/
def fnCredValidUptoRow : OpenClaim := { program := "ytbiaamipfhgfeaa", sum := "76daa63db0cff7456235ea0dbac815629c62c734fec2a706ccc25fb2f899771a", func := "loop.example/userspaces/laws.FnCredValid", spec := "fnCredValid", apart := false, narrowed := true }
def FnCredValidUptoSaid : Prop := fnCredValidUptoRow.holds Try.pinned (OpenSpec.upto fnCredValidSpec)

/-- 'laws.FnSetUser', WHERE WHAT IT READS IS OF BULK AT MOST 1048576: true; the input reads as it did. -/
def fnSetUserUptoRow : OpenClaim := { program := "ytbiaamipfhgfeaa", sum := "76daa63db0cff7456235ea0dbac815629c62c734fec2a706ccc25fb2f899771a", func := "loop.example/userspaces/laws.FnSetUser", spec := "fnSetUser", apart := false, narrowed := true }
def FnSetUserUptoSaid : Prop := fnSetUserUptoRow.holds Try.pinned (OpenSpec.upto fnSetUserSpec)

/-- 'laws.FnActAs', WHERE WHAT IT READS IS OF BULK AT MOST 1048576: true; the input reads as it did. -/
def fnActAsUptoRow : OpenClaim := { program := "ytbiaamipfhgfeaa", sum := "76daa63db0cff7456235ea0dbac815629c62c734fec2a706ccc25fb2f899771a", func := "loop.example/userspaces/laws.FnActAs", spec := "fnActAs", apart := false, narrowed := true }
def FnActAsUptoSaid : Prop := fnActAsUptoRow.holds Try.pinned (OpenSpec.upto fnActAsSpec)

/-- 'laws.FnModeText', WHERE WHAT IT READS IS OF BULK AT MOST 1048576: true; the input reads as it did. -/
def fnModeTextUptoRow : OpenClaim := { program := "ytbiaamipfhgfeaa", sum := "76daa63db0cff7456235ea0dbac815629c62c734fec2a706ccc25fb2f899771a", func := "loop.example/userspaces/laws.FnModeText", spec := "fnModeText", apart := false, narrowed := true }
def FnModeTextUptoSaid : Prop := fnModeTextUptoRow.holds Try.pinned (OpenSpec.upto fnModeTextSpec)

/-- 'laws.FnRunAs', WHERE WHAT IT READS IS OF BULK AT MOST 1048576: true; the input reads as it did. -/
def fnRunAsUptoRow : OpenClaim := { program := "ytbiaamipfhgfeaa", sum := "76daa63db0cff7456235ea0dbac815629c62c734fec2a706ccc25fb2f899771a", func := "loop.example/userspaces/laws.FnRunAs", spec := "fnRunAs", apart := false, narrowed := true }
def FnRunAsUptoSaid : Prop := fnRunAsUptoRow.holds Try.pinned (OpenSpec.upto fnRunAsSpec)

/-- 'laws.FnClassOf', WHERE WHAT IT READS IS OF BULK AT MOST 1048576: true; the input reads as it did. -/
def fnClassOfUptoRow : OpenClaim := { program := "ytbiaamipfhgfeaa", sum := "76daa63db0cff7456235ea0dbac815629c62c734fec2a706ccc25fb2f899771a", func := "loop.example/userspaces/laws.FnClassOf", spec := "fnClassOf", apart := false, narrowed := true }
def FnClassOfUptoSaid : Prop := fnClassOfUptoRow.holds Try.pinned (OpenSpec.upto fnClassOfSpec)

/-- 'laws.FnReadMode', WHERE WHAT IT READS IS OF BULK AT MOST 1048576: true; the input reads as it did. -/
def fnReadModeUptoRow : OpenClaim := { program := "ytbiaamipfhgfeaa", sum := "76daa63db0cff7456235ea0dbac815629c62c734fec2a706ccc25fb2f899771a", func := "loop.example/userspaces/laws.FnReadMode", spec := "fnReadMode", apart := false, narrowed := true }
def FnReadModeUptoSaid : Prop := fnReadModeUptoRow.holds Try.pinned (OpenSpec.upto fnReadModeSpec)

end Rows
end Go.Proofs.Ytbiaamipfhgfeaa
