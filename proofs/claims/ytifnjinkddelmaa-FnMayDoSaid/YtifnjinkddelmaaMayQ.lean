/-
  Parts of rights, one by one.
  Conditions: none.
-/
import Derived.Test.YtifnjinkddelmaaMayP
namespace Go.Proofs.Ytifnjinkddelmaa
open Go.RowKit

/-- Are the first j of the rights in w allowed, one by one? -/
def partA (c : Cr) (o g m w : Int) : Nat → Bool
  | 0 => true
  | j + 1 => partA c o g m w j && ((w / 2 ^ j % 2 == 0) || mayF c o g m (2 ^ j))
theorem partA_step {c : Cr} {o g m w v : Int} {j : Nat} {A z q : Bool} (hA : A = partA c o g m w j) (hv : (2 : Int) ^ j = v) (hz : (w / v % 2 == 0) = z) (hq : mayF c o g m v = q) : (A && (z || q)) = partA c o g m w (j + 1) := by
  rw [partA, hv, hz, hq, hA]
theorem partA_all {c : Cr} {o g m w : Int} (h : (c.ok && inR o 0 99 && inR g 0 7 && inR m 0 1023) = true) (hw : inR w 0 7 = true) : mayF c o g m w = partA c o g m w 3 := by
  obtain ⟨h0, h1⟩ := inR_iff.1 hw
  have hp := may_parts (c := c) (o := o) (g := g) (m := m) h0 h1
  have p0 : (2 : Int) ^ 0 = 1 := by decide
  have p1 : (2 : Int) ^ 1 = 2 := by decide
  have p2 : (2 : Int) ^ 2 = 4 := by decide
  rw [may_in h hw, Bool.eq_iff_iff, hp]
  simp only [partA, p0, p1, p2, Bool.true_and, Bool.and_eq_true, Bool.or_eq_true, beq_iff_eq, Int.ediv_one]
  rw [may_in h (w := 1) rfl, may_in h (w := 2) rfl, may_in h (w := 4) rfl]
  exact and_assoc.symm

end Go.Proofs.Ytifnjinkddelmaa
