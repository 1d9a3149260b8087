/-
  Who may do what, on numbers.
  Conditions: none.
-/
import Derived.Test.YtbnjjpgacemicaaGreatDoorPlain
namespace Go.Proofs.YtbnjjpgacemicaaGreatDoor
open Go.RowKit

/-- All of want are among r. -/
def subR (want r : Int) : Bool := bits .and .i64 r want == want
def anyOf (m : Int) : Int := bits .or .i64 (bits .or .i64 (rightsOf m 0) (rightsOf m 1)) (rightsOf m 2)
def anyRun (m : Int) : Bool := anyOf m % 2 == 1
def mayB (c : Cr) (o g m want : Int) : Bool := if c.acts = 0 then (want % 2 == 0 || anyRun m) else subR want (rightsOf m (clsOf c o g))
def mayF (c : Cr) (o g m want : Int) : Bool := c.ok && inR o 0 99 && inR g 0 7 && inR m 0 1023 && inR want 0 7 && mayB c o g m want
def allowF (c : Cr) (o g m : Int) : Int :=
  if c.ok && inR o 0 99 && inR g 0 7 && inR m 0 1023 then
    (if mayB c o g m 1 then 1 else 0) + (if mayB c o g m 2 then 2 else 0) + (if mayB c o g m 4 then 4 else 0) else -1

theorem fin8 (n : Int) (h0 : 0 ≤ n) (h1 : n ≤ 7) : ∃ k : Fin 8, n = (k.val : Int) := ⟨⟨n.toNat, by omega⟩, by simp; omega⟩
theorem and_le (a b : Int) (h0 : 0 ≤ a) (h1 : a ≤ 7) (k0 : 0 ≤ b) (k1 : b ≤ 7) : bits .and .i64 a b = ((a.toNat &&& b.toNat : Nat) : Int) := i64_and a b h0 (by omega) k0 (by omega)
theorem sub_nat : ∀ a b : Fin 8, (a.val &&& (18446744073709551615 - b.val) = 0) ↔ (b.val &&& a.val = a.val) := by decide +kernel
theorem subR_nat (w r : Fin 8) : subR (w.val : Int) (r.val : Int) = decide (r.val &&& w.val = w.val) := by
  unfold subR
  rw [and_le _ _ (by omega) (by omega) (by omega) (by omega), Int.toNat_natCast, Int.toNat_natCast, Bool.eq_iff_iff]
  simp; omega
theorem andNot_sub (w r : Int) (h0 : 0 ≤ w) (h1 : w ≤ 7) (k0 : 0 ≤ r) (k1 : r ≤ 7) : (bits .andNot .i64 w r == 0) = subR w r := by
  obtain ⟨a, rfl⟩ := fin8 w h0 h1
  obtain ⟨b, rfl⟩ := fin8 r k0 k1
  rw [i64_andNot _ _ (by omega) (by omega) (by omega) (by omega), Int.toNat_natCast, Int.toNat_natCast, subR_nat, Bool.eq_iff_iff]
  have := sub_nat a b
  simp only [beq_iff_eq, decide_eq_true_eq, ← this]; omega
theorem or3_nat : ∀ a b c : Fin 8, ((a.val ||| b.val) ||| c.val) < 8 ∧ (((a.val ||| b.val) ||| c.val) % 2 = 1 ↔ (a.val % 2 = 1 ∨ b.val % 2 = 1 ∨ c.val % 2 = 1)) := by decide +kernel
theorem or2_nat : ∀ a b : Fin 8, (a.val ||| b.val) < 8 := by decide +kernel
theorem or3 (a b c : Int) (a0 : 0 ≤ a ∧ a ≤ 7) (b0 : 0 ≤ b ∧ b ≤ 7) (c0 : 0 ≤ c ∧ c ≤ 7) :
    (0 ≤ bits .or .i64 a b ∧ bits .or .i64 a b ≤ 7) ∧ (0 ≤ bits .or .i64 (bits .or .i64 a b) c ∧ bits .or .i64 (bits .or .i64 a b) c ≤ 7) ∧ (bits .or .i64 (bits .or .i64 a b) c % 2 = 1 ↔ (a % 2 = 1 ∨ b % 2 = 1 ∨ c % 2 = 1)) := by
  obtain ⟨x, rfl⟩ := fin8 a a0.1 a0.2
  obtain ⟨y, rfl⟩ := fin8 b b0.1 b0.2
  obtain ⟨z, rfl⟩ := fin8 c c0.1 c0.2
  have h2 := or2_nat x y
  have h3 := or3_nat x y z
  have e1 : bits .or .i64 (x.val : Int) (y.val : Int) = ((x.val ||| y.val : Nat) : Int) := by
    rw [i64_or _ _ (by omega) (by omega) (by omega) (by omega), Int.toNat_natCast, Int.toNat_natCast]
  rw [e1]
  have e2 : bits .or .i64 ((x.val ||| y.val : Nat) : Int) (z.val : Int) = (((x.val ||| y.val) ||| z.val : Nat) : Int) := by
    rw [i64_or _ _ (by omega) (by omega) (by omega) (by omega), Int.toNat_natCast, Int.toNat_natCast]
  rw [e2]
  omega
theorem anyOf_bd (m : Int) : 0 ≤ anyOf m ∧ anyOf m ≤ 7 := (or3 _ _ _ (rightsOf_bd m 0) (rightsOf_bd m 1) (rightsOf_bd m 2)).2.1
theorem anyRun_iff (m : Int) : anyRun m = true ↔ (rightsOf m 0 % 2 = 1 ∨ rightsOf m 1 % 2 = 1 ∨ rightsOf m 2 % 2 = 1) := by
  rw [← (or3 _ _ _ (rightsOf_bd m 0) (rightsOf_bd m 1) (rightsOf_bd m 2)).2.2]
  simp [anyRun, anyOf]
theorem sub_run_nat : ∀ a b : Fin 8, b.val &&& a.val = a.val → a.val % 2 = 1 → b.val % 2 = 1 := by decide +kernel
theorem sub_run {w r : Int} (h0 : 0 ≤ w) (h1 : w ≤ 7) (k0 : 0 ≤ r) (k1 : r ≤ 7) (h : subR w r = true) (hw : w % 2 = 1) : r % 2 = 1 := by
  obtain ⟨a, rfl⟩ := fin8 w h0 h1
  obtain ⟨b, rfl⟩ := fin8 r k0 k1
  rw [subR_nat] at h
  have := sub_run_nat a b (by simpa using h) (by omega)
  omega
/-- Where the rights of the class have all that is wanted, the user 0 may, too. -/
theorem root_sub {m w k : Int} (h0 : 0 ≤ w) (h1 : w ≤ 7) (hk : 0 ≤ k ∧ k ≤ 2) (h : subR w (rightsOf m k) = true) : (w % 2 == 0 || anyRun m) = true := by
  by_cases hw : w % 2 = 1
  · have hr := sub_run h0 h1 (rightsOf_bd m k).1 (rightsOf_bd m k).2 h hw
    have : anyRun m = true := by
      rw [anyRun_iff]
      have : k = 0 ∨ k = 1 ∨ k = 2 := by omega
      rcases this with rfl | rfl | rfl
      · exact .inl hr
      · exact .inr (.inl hr)
      · exact .inr (.inr hr)
    simp [this]
  · have : w % 2 = 0 := by omega
    simp [this]

/-- The sum of the first j rights that are allowed. -/
def asum (c : Cr) (o g m : Int) : Nat → Int
  | 0 => 0
  | j + 1 => asum c o g m j + if mayB c o g m (2 ^ j) then 2 ^ j else 0
theorem asum_yes {c : Cr} {o g m v t : Int} {j : Nat} (ht : t = asum c o g m j) (hv : (2 : Int) ^ j = v) (h : mayB c o g m v = true) : t + v = asum c o g m (j + 1) := by
  rw [asum, hv, if_pos h, ht]
theorem asum_no {c : Cr} {o g m v t : Int} {j : Nat} (ht : t = asum c o g m j) (hv : (2 : Int) ^ j = v) (h : mayB c o g m v = false) : t = asum c o g m (j + 1) := by
  rw [asum, hv, if_neg (by simp [h]), ht, Int.add_zero]
theorem asum_all {c : Cr} {o g m : Int} (h : (c.ok && inR o 0 99 && inR g 0 7 && inR m 0 1023) = true) : asum c o g m 3 = allowF c o g m := by
  rw [allowF, if_pos h]
  show (((0 : Int) + _) + _) + _ = _
  have p0 : (2 : Int) ^ 0 = 1 := by decide
  have p1 : (2 : Int) ^ 1 = 2 := by decide
  have p2 : (2 : Int) ^ 2 = 4 := by decide
  rw [p0, p1, p2, Int.zero_add]
theorem allow_out {c : Cr} {o g m : Int} (h : (c.ok && inR o 0 99 && inR g 0 7 && inR m 0 1023) = false) : allowF c o g m = -1 := by
  rw [allowF, if_neg (by simp [h])]

/-- What is allowed together is allowed one by one, and the other way round. -/
theorem sub_parts_nat : ∀ w r : Fin 8, (r.val &&& w.val = w.val) ↔ ((w.val % 2 = 0 ∨ r.val &&& 1 = 1) ∧ (w.val / 2 % 2 = 0 ∨ r.val &&& 2 = 2) ∧ (w.val / 4 % 2 = 0 ∨ r.val &&& 4 = 4)) := by decide +kernel
theorem subR_parts {w r : Int} (h0 : 0 ≤ w) (h1 : w ≤ 7) (k0 : 0 ≤ r) (k1 : r ≤ 7) :
    subR w r = true ↔ (w % 2 = 0 ∨ subR 1 r = true) ∧ (w / 2 % 2 = 0 ∨ subR 2 r = true) ∧ (w / 4 % 2 = 0 ∨ subR 4 r = true) := by
  obtain ⟨a, rfl⟩ := fin8 w h0 h1
  obtain ⟨b, rfl⟩ := fin8 r k0 k1
  have e1 : subR 1 (b.val : Int) = decide (b.val &&& 1 = 1) := subR_nat 1 b
  have e2 : subR 2 (b.val : Int) = decide (b.val &&& 2 = 2) := subR_nat 2 b
  have e4 : subR 4 (b.val : Int) = decide (b.val &&& 4 = 4) := subR_nat 4 b
  rw [subR_nat, e1, e2, e4]
  simp only [decide_eq_true_eq]
  rw [sub_parts_nat]; omega
theorem may_zero (c : Cr) (o g m : Int) : mayB c o g m 0 = true := by
  unfold mayB
  split
  · rfl
  · have h := rightsOf_bd m (clsOf c o g)
    rw [subR_parts (by omega) (by omega) h.1 h.2]; simp
theorem may_parts {c : Cr} {o g m w : Int} (h0 : 0 ≤ w) (h1 : w ≤ 7) :
    mayB c o g m w = true ↔ (w % 2 = 0 ∨ mayB c o g m 1 = true) ∧ (w / 2 % 2 = 0 ∨ mayB c o g m 2 = true) ∧ (w / 4 % 2 = 0 ∨ mayB c o g m 4 = true) := by
  unfold mayB
  split
  · have e1 : ((1 : Int) % 2 == 0) = false := rfl
    have e2 : ((2 : Int) % 2 == 0) = true := rfl
    have e4 : ((4 : Int) % 2 == 0) = true := rfl
    rw [e1, e2, e4]
    simp only [Bool.or_eq_true, beq_iff_eq, Bool.true_or, or_true, and_true, Bool.false_or]
  · exact subR_parts h0 h1 (rightsOf_bd m _).1 (rightsOf_bd m _).2
theorem may_out {c : Cr} {o g m w : Int} (h : (c.ok && inR o 0 99 && inR g 0 7 && inR m 0 1023 && inR w 0 7) = false) : mayF c o g m w = false := by
  rw [mayF, h]; rfl
theorem may_in {c : Cr} {o g m w : Int} (h : (c.ok && inR o 0 99 && inR g 0 7 && inR m 0 1023) = true) (hw : inR w 0 7 = true) : mayF c o g m w = mayB c o g m w := by
  rw [mayF, h, hw]; rfl
/-- Exactly the rights of the sum are allowed. -/
theorem allow_exact {c : Cr} {o g m : Int} (h : (c.ok && inR o 0 99 && inR g 0 7 && inR m 0 1023) = true) (w : Int) (h0 : 0 ≤ w) (h1 : w ≤ 7) :
    mayF c o g m w = (bits .and .i64 w (allowF c o g m) == w) := by
  rw [may_in h (inR_yes h0 h1)]
  have hp := may_parts (c := c) (o := o) (g := g) (m := m) h0 h1
  rw [allowF, if_pos h]
  have key : ∀ (b1 b2 b4 : Bool) (k : Fin 8), (bits .and .i64 (k.val : Int) ((if b1 = true then 1 else 0) + (if b2 = true then 2 else 0) + (if b4 = true then 4 else 0)) == (k.val : Int)) = true ↔
      ((k.val : Int) % 2 = 0 ∨ b1 = true) ∧ ((k.val : Int) / 2 % 2 = 0 ∨ b2 = true) ∧ ((k.val : Int) / 4 % 2 = 0 ∨ b4 = true) := by decide +kernel
  obtain ⟨k, rfl⟩ := fin8 w h0 h1
  rw [Bool.eq_iff_iff, hp, key]
theorem allow_bd {c : Cr} {o g m : Int} (h : (c.ok && inR o 0 99 && inR g 0 7 && inR m 0 1023) = true) : 0 ≤ allowF c o g m ∧ allowF c o g m ≤ 7 := by
  rw [allowF, if_pos h]; split <;> split <;> split <;> omega

end Go.Proofs.YtbnjjpgacemicaaGreatDoor
