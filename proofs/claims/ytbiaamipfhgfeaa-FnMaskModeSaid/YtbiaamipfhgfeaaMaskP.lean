/-
  Masks of modes on numbers.
  Conditions: both modes lie in 0..1023.
-/
import Derived.Test.YtbiaamipfhgfeaaPlain
namespace Go.Proofs.Ytbiaamipfhgfeaa
open Go.RowKit

theorem compl_bit (k i : Nat) (h : k < 2 ^ 64) : (18446744073709551615 - k).testBit i = (decide (i < 64) && !k.testBit i) := by
  have e : 18446744073709551615 - k = 2 ^ 64 - (k + 1) := by omega
  rw [e, Nat.testBit_two_pow_sub_succ h]
theorem mask_and (m k : Nat) (h : k < 2 ^ 64) : (m &&& (18446744073709551615 - k)) &&& k = 0 := by
  apply Nat.eq_of_testBit_eq
  intro i
  simp only [Nat.testBit_and, compl_bit k i h, Nat.zero_testBit]
  cases m.testBit i <;> cases k.testBit i <;> simp
theorem mask_or (m k : Nat) (hm : m < 1024) (h : k < 2 ^ 64) : (m &&& (18446744073709551615 - k)) ||| (m &&& k) = m := by
  apply Nat.eq_of_testBit_eq
  intro i
  simp only [Nat.testBit_and, Nat.testBit_or, compl_bit k i h]
  by_cases hi : i < 64
  · simp only [hi, decide_true, Bool.true_and]
    cases m.testBit i <;> cases k.testBit i <;> rfl
  · have : m.testBit i = false := by
      apply Nat.testBit_lt_two_pow
      exact Nat.lt_of_lt_of_le (show m < 2 ^ 10 by omega) (Nat.pow_le_pow_right (by omega) (by omega))
    simp [this]
theorem mask_mask (m k : Nat) : (m &&& (18446744073709551615 - k)) &&& (18446744073709551615 - k) = m &&& (18446744073709551615 - k) := by
  rw [Nat.and_assoc, Nat.and_self]
theorem maskOf_nat {m k : Int} (hm : 0 ≤ m ∧ m ≤ 1023) (hk : 0 ≤ k ∧ k ≤ 1023) : maskOf m k = ((m.toNat &&& (18446744073709551615 - k.toNat) : Nat) : Int) := by
  rw [maskOf, if_pos (by simp [inR_yes hm.1 hm.2, inR_yes hk.1 hk.2]), i64_andNot m k hm.1 (by omega) hk.1 (by omega)]
theorem maskOf_bd {m k : Int} (hm : 0 ≤ m ∧ m ≤ 1023) (hk : 0 ≤ k ∧ k ≤ 1023) : 0 ≤ maskOf m k ∧ maskOf m k ≤ 1023 := by
  rw [maskOf_nat hm hk]
  have : m.toNat &&& (18446744073709551615 - k.toNat) ≤ m.toNat := Nat.and_le_left
  omega
theorem maskOf_gone {m k : Int} (hm : 0 ≤ m ∧ m ≤ 1023) (hk : 0 ≤ k ∧ k ≤ 1023) : (bits .and .i64 (maskOf m k) k == 0) = true := by
  have hb := maskOf_bd hm hk
  rw [i64_and _ _ hb.1 (by omega) hk.1 (by omega), maskOf_nat hm hk, Int.toNat_natCast, mask_and _ _ (by omega)]
  rfl
theorem maskOf_stay {m k : Int} (hm : 0 ≤ m ∧ m ≤ 1023) (hk : 0 ≤ k ∧ k ≤ 1023) : (bits .or .i64 (maskOf m k) (bits .and .i64 m k) == m) = true := by
  have hb := maskOf_bd hm hk
  have hle : m.toNat &&& k.toNat ≤ m.toNat := Nat.and_le_left
  rw [i64_and m k hm.1 (by omega) hk.1 (by omega), i64_or _ _ hb.1 (by omega) (by omega) (by omega), maskOf_nat hm hk, Int.toNat_natCast, Int.toNat_natCast, mask_or _ _ (by omega) (by omega)]
  simp; omega
theorem maskOf_twice {m k : Int} (hm : 0 ≤ m ∧ m ≤ 1023) (hk : 0 ≤ k ∧ k ≤ 1023) : (maskOf (maskOf m k) k == maskOf m k) = true := by
  have hb := maskOf_bd hm hk
  rw [maskOf_nat hb hk, maskOf_nat hm hk, Int.toNat_natCast, mask_mask]
  simp
theorem maskOf_out {m k : Int} (h : ¬ ((0 ≤ m ∧ m ≤ 1023) ∧ (0 ≤ k ∧ k ≤ 1023))) : maskOf m k = -1 := by
  rw [maskOf, if_neg]
  simp only [Bool.and_eq_true, inR_iff]; exact h

end Go.Proofs.Ytbiaamipfhgfeaa
