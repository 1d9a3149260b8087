/-
  No cell of these rows narrows 'for every input' (looked for: loops, veiled, ifaces, maps, wideKeys, modest, calm, conditions, laid).
  DERIVED. THE GIVEN ROWS OF THIS SEAT. 6 by the template 'for every input the law returns true; each argument reads behind the call as it read before'; 0 by the template 'total and deterministic' (their statements: YtlnlpholhnbifaaTotals.lean).
  GIVEN WITH THE SEED: the statements are not yours to turn. If you find one false, say at which input.
  Laid BY PROGRAM, IN A SANDBOX (cutbox-rows.mjs): the forced cells as the released guide's own fill.sh prints them over the translation cbd4fa29ce4de336… (all of the seat's roots in one cut). By AI agents, Wed Nov 11 2026. No macro, syntax, notation, axiom, sorry.
-/
import Derived.Test.YtlnlpholhnbifaaChecked
import GoSem.Claim
import GoSem.ClaimJoined
import GoSem.ClaimMapViews
import Derived.JoinedTies
import Derived.KernelRfl
namespace Go.Proofs.Ytlnlpholhnbifaa
/- THE CELL 'sum', in the pinned program and in every row, IS THE sha256 OF THE DUMP (.gsa) THAT YtlnlpholhnbifaaProg.lean LOADS. Nothing in Lean hashes anything: it is a label: what it is worth is what the hold of that sum in a sandbox is worth. -/
noncomputable def Try.pinned : Pinned := { name := "ytlnlpholhnbifaa", sum := "cbd4fa29ce4de336383b8e184a4b6cd246d38ef9b814010a132278e19b4926e1", checked := Try.checked }
namespace Rows
def none {H : Type} : Left H := { results := [], args := [] }

/-- 'laws.FnExactJoinPath': WHATEVER THE INPUT: true; the input reads as it did. -/
def fnExactJoinPathSpec : ChangeSpec := { name := "fnExactJoinPath", fn := fun _ => fun
  | [d] => { results := [.lit (.bool true)], args := [d] }
  | _ => none }
def fnExactJoinPathRow : OpenClaim := { program := "ytlnlpholhnbifaa", sum := "cbd4fa29ce4de336383b8e184a4b6cd246d38ef9b814010a132278e19b4926e1", func := "loop.example/userspaces/laws.FnExactJoinPath", spec := "fnExactJoinPath", inPlace := ["internal/abi.NoEscape", "internal/bytealg.MakeNoZero"], unfollowed := true, recurses := true, apart := false }
def FnExactJoinPathSaid : Prop := fnExactJoinPathRow.holds Try.pinned (OpenSpec.ofChange fnExactJoinPathSpec)

/-- ITS FALSE NEIGHBOUR: 'it returns false'. Refute it at one input. -/
def fnExactJoinPathWrong : ChangeSpec := { name := "fnExactJoinPath", fn := fun _ => fun
  | [d] => { results := [.lit (.bool false)], args := [d] }
  | _ => none }
def FnExactJoinPathWrongFalsely : Prop := fnExactJoinPathRow.holds Try.pinned (OpenSpec.ofChange fnExactJoinPathWrong)

/-- 'laws.FnExactLinksOf': WHATEVER THE INPUT: true; the input reads as it did. -/
def fnExactLinksOfSpec : ChangeSpec := { name := "fnExactLinksOf", fn := fun _ => fun
  | [d] => { results := [.lit (.bool true)], args := [d] }
  | _ => none }
def fnExactLinksOfRow : OpenClaim := { program := "ytlnlpholhnbifaa", sum := "cbd4fa29ce4de336383b8e184a4b6cd246d38ef9b814010a132278e19b4926e1", func := "loop.example/userspaces/laws.FnExactLinksOf", spec := "fnExactLinksOf", apart := false }
def FnExactLinksOfSaid : Prop := fnExactLinksOfRow.holds Try.pinned (OpenSpec.ofChange fnExactLinksOfSpec)

/-- ITS FALSE NEIGHBOUR: 'it returns false'. Refute it at one input. -/
def fnExactLinksOfWrong : ChangeSpec := { name := "fnExactLinksOf", fn := fun _ => fun
  | [d] => { results := [.lit (.bool false)], args := [d] }
  | _ => none }
def FnExactLinksOfWrongFalsely : Prop := fnExactLinksOfRow.holds Try.pinned (OpenSpec.ofChange fnExactLinksOfWrong)

/-- 'laws.FnNewTree': WHATEVER THE INPUT: true; the input reads as it did. -/
def fnNewTreeSpec : ChangeSpec := { name := "fnNewTree", fn := fun _ => fun
  | [d] => { results := [.lit (.bool true)], args := [d] }
  | _ => none }
def fnNewTreeRow : OpenClaim := { program := "ytlnlpholhnbifaa", sum := "cbd4fa29ce4de336383b8e184a4b6cd246d38ef9b814010a132278e19b4926e1", func := "loop.example/userspaces/laws.FnNewTree", spec := "fnNewTree", inPlace := ["internal/abi.NoEscape", "internal/bytealg.MakeNoZero"], unfollowed := true, recurses := true, apart := false }
def FnNewTreeSaid : Prop := fnNewTreeRow.holds Try.pinned (OpenSpec.ofChange fnNewTreeSpec)

/-- ITS FALSE NEIGHBOUR: 'it returns false'. Refute it at one input. -/
def fnNewTreeWrong : ChangeSpec := { name := "fnNewTree", fn := fun _ => fun
  | [d] => { results := [.lit (.bool false)], args := [d] }
  | _ => none }
def FnNewTreeWrongFalsely : Prop := fnNewTreeRow.holds Try.pinned (OpenSpec.ofChange fnNewTreeWrong)

/-- 'laws.FnExactTreeValid': WHATEVER THE INPUT: true; the input reads as it did. -/
def fnExactTreeValidSpec : ChangeSpec := { name := "fnExactTreeValid", fn := fun _ => fun
  | [d] => { results := [.lit (.bool true)], args := [d] }
  | _ => none }
def fnExactTreeValidRow : OpenClaim := { program := "ytlnlpholhnbifaa", sum := "cbd4fa29ce4de336383b8e184a4b6cd246d38ef9b814010a132278e19b4926e1", func := "loop.example/userspaces/laws.FnExactTreeValid", spec := "fnExactTreeValid", apart := false }
def FnExactTreeValidSaid : Prop := fnExactTreeValidRow.holds Try.pinned (OpenSpec.ofChange fnExactTreeValidSpec)

/-- ITS FALSE NEIGHBOUR: 'it returns false'. Refute it at one input. -/
def fnExactTreeValidWrong : ChangeSpec := { name := "fnExactTreeValid", fn := fun _ => fun
  | [d] => { results := [.lit (.bool false)], args := [d] }
  | _ => none }
def FnExactTreeValidWrongFalsely : Prop := fnExactTreeValidRow.holds Try.pinned (OpenSpec.ofChange fnExactTreeValidWrong)

/-- 'laws.FnExactOwnedNodes': WHATEVER THE INPUT: true; the input reads as it did. -/
def fnExactOwnedNodesSpec : ChangeSpec := { name := "fnExactOwnedNodes", fn := fun _ => fun
  | [d1, d2] => { results := [.lit (.bool true)], args := [d1, d2] }
  | _ => none }
def fnExactOwnedNodesRow : OpenClaim := { program := "ytlnlpholhnbifaa", sum := "cbd4fa29ce4de336383b8e184a4b6cd246d38ef9b814010a132278e19b4926e1", func := "loop.example/userspaces/laws.FnExactOwnedNodes", spec := "fnExactOwnedNodes", apart := false }
def FnExactOwnedNodesSaid : Prop := fnExactOwnedNodesRow.holds Try.pinned (OpenSpec.ofChange fnExactOwnedNodesSpec)

/-- ITS FALSE NEIGHBOUR: 'it returns false'. Refute it at one input. -/
def fnExactOwnedNodesWrong : ChangeSpec := { name := "fnExactOwnedNodes", fn := fun _ => fun
  | [d1, d2] => { results := [.lit (.bool false)], args := [d1, d2] }
  | _ => none }
def FnExactOwnedNodesWrongFalsely : Prop := fnExactOwnedNodesRow.holds Try.pinned (OpenSpec.ofChange fnExactOwnedNodesWrong)

/-- 'laws.FnExactPathsOf': WHATEVER THE INPUT: true; the input reads as it did. -/
def fnExactPathsOfSpec : ChangeSpec := { name := "fnExactPathsOf", fn := fun _ => fun
  | [d] => { results := [.lit (.bool true)], args := [d] }
  | _ => none }
def fnExactPathsOfRow : OpenClaim := { program := "ytlnlpholhnbifaa", sum := "cbd4fa29ce4de336383b8e184a4b6cd246d38ef9b814010a132278e19b4926e1", func := "loop.example/userspaces/laws.FnExactPathsOf", spec := "fnExactPathsOf", inPlace := ["internal/abi.NoEscape", "internal/bytealg.MakeNoZero"], unfollowed := true, recurses := true, apart := false }
def FnExactPathsOfSaid : Prop := fnExactPathsOfRow.holds Try.pinned (OpenSpec.ofChange fnExactPathsOfSpec)

/-- ITS FALSE NEIGHBOUR: 'it returns false'. Refute it at one input. -/
def fnExactPathsOfWrong : ChangeSpec := { name := "fnExactPathsOf", fn := fun _ => fun
  | [d] => { results := [.lit (.bool false)], args := [d] }
  | _ => none }
def FnExactPathsOfWrongFalsely : Prop := fnExactPathsOfRow.holds Try.pinned (OpenSpec.ofChange fnExactPathsOfWrong)

/- THE SECOND FORM. 'bulk': how many values and letters a reading holds, each counted each time it is reached (what is shared counts as often as it is met; a slice's spare places count too). A statement '..UptoSaid' is the law's where the arguments, and the package variables that the reading takes, are together of bulk at most 1048576: NARROWER than '..Said'. Prove '..Said' where nothing that the law and all that it calls make is longer than what came in: it says more and counts as full. Else prove '..UptoSaid'. A law counts once. -/
mutual
def uptoBulk {H : Type} : DataW H → Nat
  | .lit (.string bytes) => bytes.length + 1
  | .lit _ => 1
  | .nil => 1
  | .ptr d => uptoBulk d + 1
  | .slice elems spare => uptoBulkAll elems + uptoBulkAll spare + 1
  | .agg parts => uptoBulkAll parts + 1
  | .iface _ d => uptoBulk d + 1
  | .map entries => uptoBulkEntries entries + 1
  | .held _ => 1
def uptoBulkAll {H : Type} : List (DataW H) → Nat
  | [] => 0
  | d :: r => uptoBulk d + uptoBulkAll r
def uptoBulkEntries {H : Type} : List (Lit × DataW H) → Nat
  | [] => 0
  | x :: r => uptoBulkEntry x + uptoBulkEntries r
def uptoBulkEntry {H : Type} : Lit × DataW H → Nat
  | (.string bytes, d) => bytes.length + uptoBulk d + 1
  | (_, d) => uptoBulk d + 1
 end
def uptoSmall : (H : Type) → List (DataW H) → Bool := fun _ ds => decide (uptoBulkAll ds ≤ 1048576)
def OpenSpec.upto (s : _root_.Go.ChangeSpec) : _root_.Go.OpenSpec := { _root_.Go.OpenSpec.ofChange s with cond := some uptoSmall }

/-- 'laws.FnExactJoinPath', WHERE WHAT IT READS IS OF BULK AT MOST 1048576: true; the input reads as it did. -/
def fnExactJoinPathUptoRow : OpenClaim := { program := "ytlnlpholhnbifaa", sum := "cbd4fa29ce4de336383b8e184a4b6cd246d38ef9b814010a132278e19b4926e1", func := "loop.example/userspaces/laws.FnExactJoinPath", spec := "fnExactJoinPath", inPlace := ["internal/abi.NoEscape", "internal/bytealg.MakeNoZero"], unfollowed := true, recurses := true, apart := false, narrowed := true }
def FnExactJoinPathUptoSaid : Prop := fnExactJoinPathUptoRow.holds Try.pinned (OpenSpec.upto fnExactJoinPathSpec)

/-- 'laws.FnExactLinksOf', WHERE WHAT IT READS IS OF BULK AT MOST 1048576: true; the input reads as it did. -/
def fnExactLinksOfUptoRow : OpenClaim := { program := "ytlnlpholhnbifaa", sum := "cbd4fa29ce4de336383b8e184a4b6cd246d38ef9b814010a132278e19b4926e1", func := "loop.example/userspaces/laws.FnExactLinksOf", spec := "fnExactLinksOf", apart := false, narrowed := true }
def FnExactLinksOfUptoSaid : Prop := fnExactLinksOfUptoRow.holds Try.pinned (OpenSpec.upto fnExactLinksOfSpec)

/-- 'laws.FnNewTree', WHERE WHAT IT READS IS OF BULK AT MOST 1048576: true; the input reads as it did. -/
def fnNewTreeUptoRow : OpenClaim := { program := "ytlnlpholhnbifaa", sum := "cbd4fa29ce4de336383b8e184a4b6cd246d38ef9b814010a132278e19b4926e1", func := "loop.example/userspaces/laws.FnNewTree", spec := "fnNewTree", inPlace := ["internal/abi.NoEscape", "internal/bytealg.MakeNoZero"], unfollowed := true, recurses := true, apart := false, narrowed := true }
def FnNewTreeUptoSaid : Prop := fnNewTreeUptoRow.holds Try.pinned (OpenSpec.upto fnNewTreeSpec)

/-- 'laws.FnExactTreeValid', WHERE WHAT IT READS IS OF BULK AT MOST 1048576: true; the input reads as it did. -/
def fnExactTreeValidUptoRow : OpenClaim := { program := "ytlnlpholhnbifaa", sum := "cbd4fa29ce4de336383b8e184a4b6cd246d38ef9b814010a132278e19b4926e1", func := "loop.example/userspaces/laws.FnExactTreeValid", spec := "fnExactTreeValid", apart := false, narrowed := true }
def FnExactTreeValidUptoSaid : Prop := fnExactTreeValidUptoRow.holds Try.pinned (OpenSpec.upto fnExactTreeValidSpec)

/-- 'laws.FnExactOwnedNodes', WHERE WHAT IT READS IS OF BULK AT MOST 1048576: true; the input reads as it did. -/
def fnExactOwnedNodesUptoRow : OpenClaim := { program := "ytlnlpholhnbifaa", sum := "cbd4fa29ce4de336383b8e184a4b6cd246d38ef9b814010a132278e19b4926e1", func := "loop.example/userspaces/laws.FnExactOwnedNodes", spec := "fnExactOwnedNodes", apart := false, narrowed := true }
def FnExactOwnedNodesUptoSaid : Prop := fnExactOwnedNodesUptoRow.holds Try.pinned (OpenSpec.upto fnExactOwnedNodesSpec)

/-- 'laws.FnExactPathsOf', WHERE WHAT IT READS IS OF BULK AT MOST 1048576: true; the input reads as it did. -/
def fnExactPathsOfUptoRow : OpenClaim := { program := "ytlnlpholhnbifaa", sum := "cbd4fa29ce4de336383b8e184a4b6cd246d38ef9b814010a132278e19b4926e1", func := "loop.example/userspaces/laws.FnExactPathsOf", spec := "fnExactPathsOf", inPlace := ["internal/abi.NoEscape", "internal/bytealg.MakeNoZero"], unfollowed := true, recurses := true, apart := false, narrowed := true }
def FnExactPathsOfUptoSaid : Prop := fnExactPathsOfUptoRow.holds Try.pinned (OpenSpec.upto fnExactPathsOfSpec)

end Rows
end Go.Proofs.Ytlnlpholhnbifaa
