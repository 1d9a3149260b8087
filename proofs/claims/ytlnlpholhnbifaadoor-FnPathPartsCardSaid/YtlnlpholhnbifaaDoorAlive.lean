/-
  Contract: alive, the laws' fixed answer.
  Conditions: none.
-/
import Derived.Test.YtlnlpholhnbifaaDoorNames
namespace Go.Proofs.YtlnlpholhnbifaaDoor
open Go.ChangeShapes Go.WideShapes Go.ChangeAt Go.RowKit
set_option maxHeartbeats 1000000
theorem alive_any (w : World) : Calls Tryd.prog 17 #[] w fun e w' => e = .returned (.bool true) ∧ w = w' := by
  have e1 : nameOk ({ data := #[97, 49] } : ByteArray).data.toList = true := by decide
  have e2 : nameOk ({ data := #[49, 97] } : ByteArray).data.toList = false := by decide
  go_enter Tryd.func17, Tryd.ntmps17
  go_wp2_with fail
  refine (iNameValid_any _ _ (by decide)).mono ?_; rintro e w' ⟨rfl, rfl⟩
  rw [e1]
  go_wp2_with fail
  refine (iNameValid_any _ _ (by decide)).mono ?_; rintro e w' ⟨rfl, rfl⟩
  rw [e2]
  go_wp2
  go_ret
  exact ⟨rfl, rfl⟩
end Go.Proofs.YtlnlpholhnbifaaDoor
