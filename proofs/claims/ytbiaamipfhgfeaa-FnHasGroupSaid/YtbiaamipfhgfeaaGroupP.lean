/-
  The sum of the groups that a sum has.
  Conditions: none.
-/
import Derived.Test.YtbiaamipfhgfeaaPlain
namespace Go.Proofs.Ytbiaamipfhgfeaa
open Go.RowKit
/-- The powers of two of the first k groups that a sum has. -/
def gsum (g : Int) : Nat → Int
  | 0 => 0
  | k + 1 => gsum g k + if hasG g k then 2 ^ k else 0
theorem gsum_bd (g : Int) (k : Nat) : 0 ≤ gsum g k ∧ gsum g k ≤ 2 ^ k - 1 := by
  induction k with
  | zero => simp [gsum]
  | succ k ih =>
    have hp : (2 : Int) ^ (k + 1) = 2 * 2 ^ k := by rw [Int.pow_succ, Int.mul_comm]
    have hp0 : (0 : Int) < 2 ^ k := Int.pow_pos (by decide)
    rw [gsum]
    split <;> omega
theorem gsum_le (g : Int) (k : Nat) (h : k ≤ 8) : 0 ≤ gsum g k ∧ gsum g k ≤ 255 := by
  have h1 := gsum_bd g k
  have h2 : (2 : Int) ^ k ≤ 2 ^ 8 := by
    have := Nat.pow_le_pow_right (n := 2) (by omega) h
    exact_mod_cast this
  have h3 : (2 : Int) ^ 8 = 256 := by decide
  omega
theorem gsum_yes {g v : Int} {k : Nat} {t : Int} (ht : t = gsum g k) (h : hasG g k = true) (hv : v = 2 ^ k) : t + v = gsum g (k + 1) := by
  rw [gsum, if_pos h, ht, hv]
theorem gsum_no {g : Int} {k : Nat} {t : Int} (ht : t = gsum g k) (h : hasG g k = false) : t = gsum g (k + 1) := by
  rw [gsum, if_neg (by simp [h]), ht, Int.add_zero]
theorem hasG_in {g : Int} {k : Nat} (h0 : 0 ≤ g) (h1 : g ≤ 255) (hk : k ≤ 7) : hasG g k = decide (g / 2 ^ k % 2 = 1) := by
  simp [hasG, inR_yes h0 h1, inR_yes (show (0 : Int) ≤ k by omega) (show (k : Int) ≤ 7 by omega)]
theorem gsum_all {g : Int} (h0 : 0 ≤ g) (h1 : g ≤ 255) : gsum g 8 = g := by
  have e : ∀ k : Nat, k ≤ 7 → (if hasG g (k : Int) = true then (2 : Int) ^ k else 0) = g / 2 ^ k % 2 * 2 ^ k := by
    intro k hk
    rw [hasG_in h0 h1 hk]
    by_cases h : g / 2 ^ k % 2 = 1
    · rw [if_pos (by simpa using h), h, Int.one_mul]
    · have : g / 2 ^ k % 2 = 0 := by omega
      rw [if_neg (by simpa using h), this, Int.zero_mul]
  show ((((((((0 + _) + _) + _) + _) + _) + _) + _) + _) = g
  rw [e 0 (by omega), e 1 (by omega), e 2 (by omega), e 3 (by omega), e 4 (by omega), e 5 (by omega), e 6 (by omega), e 7 (by omega)]
  have p0 : (2 : Int) ^ 0 = 1 := by decide
  have p1 : (2 : Int) ^ 1 = 2 := by decide
  have p2 : (2 : Int) ^ 2 = 4 := by decide
  have p3 : (2 : Int) ^ 3 = 8 := by decide
  have p4 : (2 : Int) ^ 4 = 16 := by decide
  have p5 : (2 : Int) ^ 5 = 32 := by decide
  have p6 : (2 : Int) ^ 6 = 64 := by decide
  have p7 : (2 : Int) ^ 7 = 128 := by decide
  rw [p0, p1, p2, p3, p4, p5, p6, p7]
  omega
end Go.Proofs.Ytbiaamipfhgfeaa
