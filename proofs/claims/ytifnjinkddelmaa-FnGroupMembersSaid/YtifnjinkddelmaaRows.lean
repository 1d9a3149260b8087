/-
  No cell of these rows narrows 'for every input' (looked for: loops, veiled, ifaces, maps, wideKeys, modest, calm, conditions, laid).
  DERIVED. THE GIVEN ROWS OF THIS SEAT. 12 by the template 'for every input the law returns true; each argument reads behind the call as it read before'; 0 by the template 'total and deterministic' (their statements: YtifnjinkddelmaaTotals.lean).
  GIVEN WITH THE SEED: the statements are not yours to turn. If you find one false, say at which input.
  Laid BY PROGRAM, IN A SANDBOX (cutbox-rows.mjs): the forced cells as the released guide's own fill.sh prints them over the translation a02e24edf6bece25… (all of the seat's roots in one cut). By AI agents, Wed Nov 11 2026. No macro, syntax, notation, axiom, sorry.
-/
import Derived.Test.YtifnjinkddelmaaChecked
import GoSem.Claim
import GoSem.ClaimJoined
import GoSem.ClaimMapViews
import Derived.JoinedTies
import Derived.KernelRfl
namespace Go.Proofs.Ytifnjinkddelmaa
/- THE CELL 'sum', in the pinned program and in every row, IS THE sha256 OF THE DUMP (.gsa) THAT YtifnjinkddelmaaProg.lean LOADS. Nothing in Lean hashes anything: it is a label: what it is worth is what the hold of that sum in a sandbox is worth. -/
noncomputable def Try.pinned : Pinned := { name := "ytifnjinkddelmaa", sum := "a02e24edf6bece257c48afac2d350521745c5695bede458b5e2c18fdea73cd1e", checked := Try.checked }
namespace Rows
def none {H : Type} : Left H := { results := [], args := [] }

/-- 'laws.FnExactReadMode': WHATEVER THE INPUT: true; the input reads as it did. -/
def fnExactReadModeSpec : ChangeSpec := { name := "fnExactReadMode", fn := fun _ => fun
  | [d] => { results := [.lit (.bool true)], args := [d] }
  | _ => none }
def fnExactReadModeRow : OpenClaim := { program := "ytifnjinkddelmaa", sum := "a02e24edf6bece257c48afac2d350521745c5695bede458b5e2c18fdea73cd1e", func := "loop.example/userspaces/laws.FnExactReadMode", spec := "fnExactReadMode", apart := false }
def FnExactReadModeSaid : Prop := fnExactReadModeRow.holds Try.pinned (OpenSpec.ofChange fnExactReadModeSpec)

/-- ITS FALSE NEIGHBOUR: 'it returns false'. Refute it at one input. -/
def fnExactReadModeWrong : ChangeSpec := { name := "fnExactReadMode", fn := fun _ => fun
  | [d] => { results := [.lit (.bool false)], args := [d] }
  | _ => none }
def FnExactReadModeWrongFalsely : Prop := fnExactReadModeRow.holds Try.pinned (OpenSpec.ofChange fnExactReadModeWrong)

/-- 'laws.FnExactMayDo': WHATEVER THE INPUT: true; the input reads as it did. -/
def fnExactMayDoSpec : ChangeSpec := { name := "fnExactMayDo", fn := fun _ => fun
  | [d1, d2, d3, d4, d5] => { results := [.lit (.bool true)], args := [d1, d2, d3, d4, d5] }
  | _ => none }
def fnExactMayDoRow : OpenClaim := { program := "ytifnjinkddelmaa", sum := "a02e24edf6bece257c48afac2d350521745c5695bede458b5e2c18fdea73cd1e", func := "loop.example/userspaces/laws.FnExactMayDo", spec := "fnExactMayDo", apart := false }
def FnExactMayDoSaid : Prop := fnExactMayDoRow.holds Try.pinned (OpenSpec.ofChange fnExactMayDoSpec)

/-- ITS FALSE NEIGHBOUR: 'it returns false'. Refute it at one input. -/
def fnExactMayDoWrong : ChangeSpec := { name := "fnExactMayDo", fn := fun _ => fun
  | [d1, d2, d3, d4, d5] => { results := [.lit (.bool false)], args := [d1, d2, d3, d4, d5] }
  | _ => none }
def FnExactMayDoWrongFalsely : Prop := fnExactMayDoRow.holds Try.pinned (OpenSpec.ofChange fnExactMayDoWrong)

/-- 'laws.FnExactAllowedRights': WHATEVER THE INPUT: true; the input reads as it did. -/
def fnExactAllowedRightsSpec : ChangeSpec := { name := "fnExactAllowedRights", fn := fun _ => fun
  | [d1, d2, d3, d4] => { results := [.lit (.bool true)], args := [d1, d2, d3, d4] }
  | _ => none }
def fnExactAllowedRightsRow : OpenClaim := { program := "ytifnjinkddelmaa", sum := "a02e24edf6bece257c48afac2d350521745c5695bede458b5e2c18fdea73cd1e", func := "loop.example/userspaces/laws.FnExactAllowedRights", spec := "fnExactAllowedRights", apart := false }
def FnExactAllowedRightsSaid : Prop := fnExactAllowedRightsRow.holds Try.pinned (OpenSpec.ofChange fnExactAllowedRightsSpec)

/-- ITS FALSE NEIGHBOUR: 'it returns false'. Refute it at one input. -/
def fnExactAllowedRightsWrong : ChangeSpec := { name := "fnExactAllowedRights", fn := fun _ => fun
  | [d1, d2, d3, d4] => { results := [.lit (.bool false)], args := [d1, d2, d3, d4] }
  | _ => none }
def FnExactAllowedRightsWrongFalsely : Prop := fnExactAllowedRightsRow.holds Try.pinned (OpenSpec.ofChange fnExactAllowedRightsWrong)

/-- 'laws.FnMayDo': WHATEVER THE INPUT: true; the input reads as it did. -/
def fnMayDoSpec : ChangeSpec := { name := "fnMayDo", fn := fun _ => fun
  | [d] => { results := [.lit (.bool true)], args := [d] }
  | _ => none }
def fnMayDoRow : OpenClaim := { program := "ytifnjinkddelmaa", sum := "a02e24edf6bece257c48afac2d350521745c5695bede458b5e2c18fdea73cd1e", func := "loop.example/userspaces/laws.FnMayDo", spec := "fnMayDo", apart := false }
def FnMayDoSaid : Prop := fnMayDoRow.holds Try.pinned (OpenSpec.ofChange fnMayDoSpec)

/-- ITS FALSE NEIGHBOUR: 'it returns false'. Refute it at one input. -/
def fnMayDoWrong : ChangeSpec := { name := "fnMayDo", fn := fun _ => fun
  | [d] => { results := [.lit (.bool false)], args := [d] }
  | _ => none }
def FnMayDoWrongFalsely : Prop := fnMayDoRow.holds Try.pinned (OpenSpec.ofChange fnMayDoWrong)

/-- 'laws.FnAllowedRights': WHATEVER THE INPUT: true; the input reads as it did. -/
def fnAllowedRightsSpec : ChangeSpec := { name := "fnAllowedRights", fn := fun _ => fun
  | [d] => { results := [.lit (.bool true)], args := [d] }
  | _ => none }
def fnAllowedRightsRow : OpenClaim := { program := "ytifnjinkddelmaa", sum := "a02e24edf6bece257c48afac2d350521745c5695bede458b5e2c18fdea73cd1e", func := "loop.example/userspaces/laws.FnAllowedRights", spec := "fnAllowedRights", apart := false }
def FnAllowedRightsSaid : Prop := fnAllowedRightsRow.holds Try.pinned (OpenSpec.ofChange fnAllowedRightsSpec)

/-- ITS FALSE NEIGHBOUR: 'it returns false'. Refute it at one input. -/
def fnAllowedRightsWrong : ChangeSpec := { name := "fnAllowedRights", fn := fun _ => fun
  | [d] => { results := [.lit (.bool false)], args := [d] }
  | _ => none }
def FnAllowedRightsWrongFalsely : Prop := fnAllowedRightsRow.holds Try.pinned (OpenSpec.ofChange fnAllowedRightsWrong)

/-- 'laws.FnExactUsersValid': WHATEVER THE INPUT: true; the input reads as it did. -/
def fnExactUsersValidSpec : ChangeSpec := { name := "fnExactUsersValid", fn := fun _ => fun
  | [d] => { results := [.lit (.bool true)], args := [d] }
  | _ => none }
def fnExactUsersValidRow : OpenClaim := { program := "ytifnjinkddelmaa", sum := "a02e24edf6bece257c48afac2d350521745c5695bede458b5e2c18fdea73cd1e", func := "loop.example/userspaces/laws.FnExactUsersValid", spec := "fnExactUsersValid", unfollowed := true, recurses := true, apart := false }
def FnExactUsersValidSaid : Prop := fnExactUsersValidRow.holds Try.pinned (OpenSpec.ofChange fnExactUsersValidSpec)

/-- ITS FALSE NEIGHBOUR: 'it returns false'. Refute it at one input. -/
def fnExactUsersValidWrong : ChangeSpec := { name := "fnExactUsersValid", fn := fun _ => fun
  | [d] => { results := [.lit (.bool false)], args := [d] }
  | _ => none }
def FnExactUsersValidWrongFalsely : Prop := fnExactUsersValidRow.holds Try.pinned (OpenSpec.ofChange fnExactUsersValidWrong)

/-- 'laws.FnUsersValid': WHATEVER THE INPUT: true; the input reads as it did. -/
def fnUsersValidSpec : ChangeSpec := { name := "fnUsersValid", fn := fun _ => fun
  | [d] => { results := [.lit (.bool true)], args := [d] }
  | _ => none }
def fnUsersValidRow : OpenClaim := { program := "ytifnjinkddelmaa", sum := "a02e24edf6bece257c48afac2d350521745c5695bede458b5e2c18fdea73cd1e", func := "loop.example/userspaces/laws.FnUsersValid", spec := "fnUsersValid", unfollowed := true, recurses := true, apart := false }
def FnUsersValidSaid : Prop := fnUsersValidRow.holds Try.pinned (OpenSpec.ofChange fnUsersValidSpec)

/-- ITS FALSE NEIGHBOUR: 'it returns false'. Refute it at one input. -/
def fnUsersValidWrong : ChangeSpec := { name := "fnUsersValid", fn := fun _ => fun
  | [d] => { results := [.lit (.bool false)], args := [d] }
  | _ => none }
def FnUsersValidWrongFalsely : Prop := fnUsersValidRow.holds Try.pinned (OpenSpec.ofChange fnUsersValidWrong)

/-- 'laws.FnUserNamed': WHATEVER THE INPUT: true; the input reads as it did. -/
def fnUserNamedSpec : ChangeSpec := { name := "fnUserNamed", fn := fun _ => fun
  | [d] => { results := [.lit (.bool true)], args := [d] }
  | _ => none }
def fnUserNamedRow : OpenClaim := { program := "ytifnjinkddelmaa", sum := "a02e24edf6bece257c48afac2d350521745c5695bede458b5e2c18fdea73cd1e", func := "loop.example/userspaces/laws.FnUserNamed", spec := "fnUserNamed", unfollowed := true, recurses := true, apart := false }
def FnUserNamedSaid : Prop := fnUserNamedRow.holds Try.pinned (OpenSpec.ofChange fnUserNamedSpec)

/-- ITS FALSE NEIGHBOUR: 'it returns false'. Refute it at one input. -/
def fnUserNamedWrong : ChangeSpec := { name := "fnUserNamed", fn := fun _ => fun
  | [d] => { results := [.lit (.bool false)], args := [d] }
  | _ => none }
def FnUserNamedWrongFalsely : Prop := fnUserNamedRow.holds Try.pinned (OpenSpec.ofChange fnUserNamedWrong)

/-- 'laws.FnExactUserNamed': WHATEVER THE INPUT: true; the input reads as it did. -/
def fnExactUserNamedSpec : ChangeSpec := { name := "fnExactUserNamed", fn := fun _ => fun
  | [d1, d2] => { results := [.lit (.bool true)], args := [d1, d2] }
  | _ => none }
def fnExactUserNamedRow : OpenClaim := { program := "ytifnjinkddelmaa", sum := "a02e24edf6bece257c48afac2d350521745c5695bede458b5e2c18fdea73cd1e", func := "loop.example/userspaces/laws.FnExactUserNamed", spec := "fnExactUserNamed", unfollowed := true, recurses := true, apart := false }
def FnExactUserNamedSaid : Prop := fnExactUserNamedRow.holds Try.pinned (OpenSpec.ofChange fnExactUserNamedSpec)

/-- ITS FALSE NEIGHBOUR: 'it returns false'. Refute it at one input. -/
def fnExactUserNamedWrong : ChangeSpec := { name := "fnExactUserNamed", fn := fun _ => fun
  | [d1, d2] => { results := [.lit (.bool false)], args := [d1, d2] }
  | _ => none }
def FnExactUserNamedWrongFalsely : Prop := fnExactUserNamedRow.holds Try.pinned (OpenSpec.ofChange fnExactUserNamedWrong)

/-- 'laws.FnGroupMembers': WHATEVER THE INPUT: true; the input reads as it did. -/
def fnGroupMembersSpec : ChangeSpec := { name := "fnGroupMembers", fn := fun _ => fun
  | [d] => { results := [.lit (.bool true)], args := [d] }
  | _ => none }
def fnGroupMembersRow : OpenClaim := { program := "ytifnjinkddelmaa", sum := "a02e24edf6bece257c48afac2d350521745c5695bede458b5e2c18fdea73cd1e", func := "loop.example/userspaces/laws.FnGroupMembers", spec := "fnGroupMembers", unfollowed := true, recurses := true, apart := false }
def FnGroupMembersSaid : Prop := fnGroupMembersRow.holds Try.pinned (OpenSpec.ofChange fnGroupMembersSpec)

/-- ITS FALSE NEIGHBOUR: 'it returns false'. Refute it at one input. -/
def fnGroupMembersWrong : ChangeSpec := { name := "fnGroupMembers", fn := fun _ => fun
  | [d] => { results := [.lit (.bool false)], args := [d] }
  | _ => none }
def FnGroupMembersWrongFalsely : Prop := fnGroupMembersRow.holds Try.pinned (OpenSpec.ofChange fnGroupMembersWrong)

/-- 'laws.FnExactGroupMembers': WHATEVER THE INPUT: true; the input reads as it did. -/
def fnExactGroupMembersSpec : ChangeSpec := { name := "fnExactGroupMembers", fn := fun _ => fun
  | [d1, d2] => { results := [.lit (.bool true)], args := [d1, d2] }
  | _ => none }
def fnExactGroupMembersRow : OpenClaim := { program := "ytifnjinkddelmaa", sum := "a02e24edf6bece257c48afac2d350521745c5695bede458b5e2c18fdea73cd1e", func := "loop.example/userspaces/laws.FnExactGroupMembers", spec := "fnExactGroupMembers", unfollowed := true, recurses := true, apart := false }
def FnExactGroupMembersSaid : Prop := fnExactGroupMembersRow.holds Try.pinned (OpenSpec.ofChange fnExactGroupMembersSpec)

/-- ITS FALSE NEIGHBOUR: 'it returns false'. Refute it at one input. -/
def fnExactGroupMembersWrong : ChangeSpec := { name := "fnExactGroupMembers", fn := fun _ => fun
  | [d1, d2] => { results := [.lit (.bool false)], args := [d1, d2] }
  | _ => none }
def FnExactGroupMembersWrongFalsely : Prop := fnExactGroupMembersRow.holds Try.pinned (OpenSpec.ofChange fnExactGroupMembersWrong)

/-- 'laws.FnExactNewTree': WHATEVER THE INPUT: true; the input reads as it did. -/
def fnExactNewTreeSpec : ChangeSpec := { name := "fnExactNewTree", fn := fun _ => fun
  | [d] => { results := [.lit (.bool true)], args := [d] }
  | _ => none }
def fnExactNewTreeRow : OpenClaim := { program := "ytifnjinkddelmaa", sum := "a02e24edf6bece257c48afac2d350521745c5695bede458b5e2c18fdea73cd1e", func := "loop.example/userspaces/laws.FnExactNewTree", spec := "fnExactNewTree", apart := false }
def FnExactNewTreeSaid : Prop := fnExactNewTreeRow.holds Try.pinned (OpenSpec.ofChange fnExactNewTreeSpec)

/-- ITS FALSE NEIGHBOUR: 'it returns false'. Refute it at one input. -/
def fnExactNewTreeWrong : ChangeSpec := { name := "fnExactNewTree", fn := fun _ => fun
  | [d] => { results := [.lit (.bool false)], args := [d] }
  | _ => none }
def FnExactNewTreeWrongFalsely : Prop := fnExactNewTreeRow.holds Try.pinned (OpenSpec.ofChange fnExactNewTreeWrong)

/- THE SECOND FORM. 'bulk': how many values and letters a reading holds, each counted each time it is reached (what is shared counts as often as it is met; a slice's spare places count too). A statement '..UptoSaid' is the law's where the arguments, and the package variables that the reading takes, are together of bulk at most 1048576: NARROWER than '..Said'. Prove '..Said' where nothing that the law and all that it calls make is longer than what came in: it says more and counts as full. Else prove '..UptoSaid'. A law counts once. -/
mutual
def uptoBulk {H : Type} : DataW H → Nat
  | .lit (.string bytes) => bytes.length + 1
  | .lit _ => 1
  | .nil => 1
  | .ptr d => uptoBulk d + 1
  | .slice elems spare => uptoBulkAll elems + uptoBulkAll spare + 1
  | .agg parts => uptoBulkAll parts + 1
  | .iface _ d => uptoBulk d + 1
  | .map entries => uptoBulkEntries entries + 1
  | .held _ => 1
def uptoBulkAll {H : Type} : List (DataW H) → Nat
  | [] => 0
  | d :: r => uptoBulk d + uptoBulkAll r
def uptoBulkEntries {H : Type} : List (Lit × DataW H) → Nat
  | [] => 0
  | x :: r => uptoBulkEntry x + uptoBulkEntries r
def uptoBulkEntry {H : Type} : Lit × DataW H → Nat
  | (.string bytes, d) => bytes.length + uptoBulk d + 1
  | (_, d) => uptoBulk d + 1
 end
def uptoSmall : (H : Type) → List (DataW H) → Bool := fun _ ds => decide (uptoBulkAll ds ≤ 1048576)
def OpenSpec.upto (s : _root_.Go.ChangeSpec) : _root_.Go.OpenSpec := { _root_.Go.OpenSpec.ofChange s with cond := some uptoSmall }

/-- 'laws.FnExactReadMode', WHERE WHAT IT READS IS OF BULK AT MOST 1048576: true; the input reads as it did. -/
def fnExactReadModeUptoRow : OpenClaim := { program := "ytifnjinkddelmaa", sum := "a02e24edf6bece257c48afac2d350521745c5695bede458b5e2c18fdea73cd1e", func := "loop.example/userspaces/laws.FnExactReadMode", spec := "fnExactReadMode", apart := false, narrowed := true }
def FnExactReadModeUptoSaid : Prop := fnExactReadModeUptoRow.holds Try.pinned (OpenSpec.upto fnExactReadModeSpec)

/-- 'laws.FnExactMayDo', WHERE WHAT IT READS IS OF BULK AT MOST 1048576: true; the input reads as it did. -/
def fnExactMayDoUptoRow : OpenClaim := { program := "ytifnjinkddelmaa", sum := "a02e24edf6bece257c48afac2d350521745c5695bede458b5e2c18fdea73cd1e", func := "loop.example/userspaces/laws.FnExactMayDo", spec := "fnExactMayDo", apart := false, narrowed := true }
def FnExactMayDoUptoSaid : Prop := fnExactMayDoUptoRow.holds Try.pinned (OpenSpec.upto fnExactMayDoSpec)

/-- 'laws.FnExactAllowedRights', WHERE WHAT IT READS IS OF BULK AT MOST 1048576: true; the input reads as it did. -/
def fnExactAllowedRightsUptoRow : OpenClaim := { program := "ytifnjinkddelmaa", sum := "a02e24edf6bece257c48afac2d350521745c5695bede458b5e2c18fdea73cd1e", func := "loop.example/userspaces/laws.FnExactAllowedRights", spec := "fnExactAllowedRights", apart := false, narrowed := true }
def FnExactAllowedRightsUptoSaid : Prop := fnExactAllowedRightsUptoRow.holds Try.pinned (OpenSpec.upto fnExactAllowedRightsSpec)

/-- 'laws.FnMayDo', WHERE WHAT IT READS IS OF BULK AT MOST 1048576: true; the input reads as it did. -/
def fnMayDoUptoRow : OpenClaim := { program := "ytifnjinkddelmaa", sum := "a02e24edf6bece257c48afac2d350521745c5695bede458b5e2c18fdea73cd1e", func := "loop.example/userspaces/laws.FnMayDo", spec := "fnMayDo", apart := false, narrowed := true }
def FnMayDoUptoSaid : Prop := fnMayDoUptoRow.holds Try.pinned (OpenSpec.upto fnMayDoSpec)

/-- 'laws.FnAllowedRights', WHERE WHAT IT READS IS OF BULK AT MOST 1048576: true; the input reads as it did. -/
def fnAllowedRightsUptoRow : OpenClaim := { program := "ytifnjinkddelmaa", sum := "a02e24edf6bece257c48afac2d350521745c5695bede458b5e2c18fdea73cd1e", func := "loop.example/userspaces/laws.FnAllowedRights", spec := "fnAllowedRights", apart := false, narrowed := true }
def FnAllowedRightsUptoSaid : Prop := fnAllowedRightsUptoRow.holds Try.pinned (OpenSpec.upto fnAllowedRightsSpec)

/-- 'laws.FnExactUsersValid', WHERE WHAT IT READS IS OF BULK AT MOST 1048576: true; the input reads as it did. -/
def fnExactUsersValidUptoRow : OpenClaim := { program := "ytifnjinkddelmaa", sum := "a02e24edf6bece257c48afac2d350521745c5695bede458b5e2c18fdea73cd1e", func := "loop.example/userspaces/laws.FnExactUsersValid", spec := "fnExactUsersValid", unfollowed := true, recurses := true, apart := false, narrowed := true }
def FnExactUsersValidUptoSaid : Prop := fnExactUsersValidUptoRow.holds Try.pinned (OpenSpec.upto fnExactUsersValidSpec)

/-- 'laws.FnUsersValid', WHERE WHAT IT READS IS OF BULK AT MOST 1048576: true; the input reads as it did. -/
def fnUsersValidUptoRow : OpenClaim := { program := "ytifnjinkddelmaa", sum := "a02e24edf6bece257c48afac2d350521745c5695bede458b5e2c18fdea73cd1e", func := "loop.example/userspaces/laws.FnUsersValid", spec := "fnUsersValid", unfollowed := true, recurses := true, apart := false, narrowed := true }
def FnUsersValidUptoSaid : Prop := fnUsersValidUptoRow.holds Try.pinned (OpenSpec.upto fnUsersValidSpec)

/-- 'laws.FnUserNamed', WHERE WHAT IT READS IS OF BULK AT MOST 1048576: true; the input reads as it did. -/
def fnUserNamedUptoRow : OpenClaim := { program := "ytifnjinkddelmaa", sum := "a02e24edf6bece257c48afac2d350521745c5695bede458b5e2c18fdea73cd1e", func := "loop.example/userspaces/laws.FnUserNamed", spec := "fnUserNamed", unfollowed := true, recurses := true, apart := false, narrowed := true }
def FnUserNamedUptoSaid : Prop := fnUserNamedUptoRow.holds Try.pinned (OpenSpec.upto fnUserNamedSpec)

/-- 'laws.FnExactUserNamed', WHERE WHAT IT READS IS OF BULK AT MOST 1048576: true; the input reads as it did. -/
def fnExactUserNamedUptoRow : OpenClaim := { program := "ytifnjinkddelmaa", sum := "a02e24edf6bece257c48afac2d350521745c5695bede458b5e2c18fdea73cd1e", func := "loop.example/userspaces/laws.FnExactUserNamed", spec := "fnExactUserNamed", unfollowed := true, recurses := true, apart := false, narrowed := true }
def FnExactUserNamedUptoSaid : Prop := fnExactUserNamedUptoRow.holds Try.pinned (OpenSpec.upto fnExactUserNamedSpec)

/-- 'laws.FnGroupMembers', WHERE WHAT IT READS IS OF BULK AT MOST 1048576: true; the input reads as it did. -/
def fnGroupMembersUptoRow : OpenClaim := { program := "ytifnjinkddelmaa", sum := "a02e24edf6bece257c48afac2d350521745c5695bede458b5e2c18fdea73cd1e", func := "loop.example/userspaces/laws.FnGroupMembers", spec := "fnGroupMembers", unfollowed := true, recurses := true, apart := false, narrowed := true }
def FnGroupMembersUptoSaid : Prop := fnGroupMembersUptoRow.holds Try.pinned (OpenSpec.upto fnGroupMembersSpec)

/-- 'laws.FnExactGroupMembers', WHERE WHAT IT READS IS OF BULK AT MOST 1048576: true; the input reads as it did. -/
def fnExactGroupMembersUptoRow : OpenClaim := { program := "ytifnjinkddelmaa", sum := "a02e24edf6bece257c48afac2d350521745c5695bede458b5e2c18fdea73cd1e", func := "loop.example/userspaces/laws.FnExactGroupMembers", spec := "fnExactGroupMembers", unfollowed := true, recurses := true, apart := false, narrowed := true }
def FnExactGroupMembersUptoSaid : Prop := fnExactGroupMembersUptoRow.holds Try.pinned (OpenSpec.upto fnExactGroupMembersSpec)

/-- 'laws.FnExactNewTree', WHERE WHAT IT READS IS OF BULK AT MOST 1048576: true; the input reads as it did. -/
def fnExactNewTreeUptoRow : OpenClaim := { program := "ytifnjinkddelmaa", sum := "a02e24edf6bece257c48afac2d350521745c5695bede458b5e2c18fdea73cd1e", func := "loop.example/userspaces/laws.FnExactNewTree", spec := "fnExactNewTree", apart := false, narrowed := true }
def FnExactNewTreeUptoSaid : Prop := fnExactNewTreeUptoRow.holds Try.pinned (OpenSpec.upto fnExactNewTreeSpec)

end Rows
end Go.Proofs.Ytifnjinkddelmaa
