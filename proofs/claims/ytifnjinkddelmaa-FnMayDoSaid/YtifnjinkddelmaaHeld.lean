/-
  Imports for regions that load beside calls.
  Conditions: none.
-/
import Derived.Test.YtifnjinkddelmaaFrame
import Derived.Deep.RegionHeld3
import Derived.Deep.QuietTactic
import Derived.BigQuiet
namespace Go.Proofs.Ytifnjinkddelmaa
end Go.Proofs.Ytifnjinkddelmaa
