/-
  Contracts of the small functions: ranges, groups, rights, credentials, classes.
  Conditions: none but where a contract names them.
-/
import Derived.Test.YtifbhdhejplcfaaPlain
import Derived.Outline
namespace Go.Proofs.Ytifbhdhejplcfaa
open Go.ChangeShapes Go.WideShapes Go.ChangeAt Go.RowKit

theorem bcell {W w1 : World} (hb : Below W.heap.size W w1) : (∀ b o, b < W.heap.size → w1.cell? ⟨b, o, none⟩ = W.cell? ⟨b, o, none⟩) ∧ (∀ b o, b < W.heap.size → w1.frozen? ⟨b, o, none⟩ = W.frozen? ⟨b, o, none⟩) :=
  ⟨fun b o h => hb.cell (p := ⟨b, o, none⟩) h, fun b o h => hb.frozen (p := ⟨b, o, none⟩) h⟩

theorem l1In_any (n lo hi : Int) (w : World) : Calls Try.prog 39 #[.int .i64 n, .int .i64 lo, .int .i64 hi] w fun e w' => e = .returned (.bool (inR n lo hi)) ∧ w = w' := by
  by_cases h : lo ≤ n
  · go_enter Try.func39, Try.ntmps39
    go_wp2
    go_ret
    exact ⟨ret_bool (by simp [inR, h]), rfl⟩
  · go_enter Try.func39, Try.ntmps39
    go_wp2
    go_ret
    exact ⟨ret_bool (by rw [inR, decide_eq_false (by omega), Bool.false_and]), rfl⟩
theorem within_any (n lo hi : Int) (w : World) : Calls Try.prog 40 #[.int .i64 n, .int .i64 lo, .int .i64 hi] w fun e w' => e = .returned (.bool (inR n lo hi)) ∧ w = w' := by
  by_cases h : lo ≤ n
  · go_enter Try.func40, Try.ntmps40
    go_wp2
    go_ret
    exact ⟨ret_bool (by simp [inR, h]), rfl⟩
  · go_enter Try.func40, Try.ntmps40
    go_wp2
    go_ret
    exact ⟨ret_bool (by rw [inR, decide_eq_false (by omega), Bool.false_and]), rfl⟩
theorem isUser_any (n : Int) (w : World) : Calls Try.prog 44 #[.int .i64 n] w fun e w' => e = .returned (.bool (inR n 0 99)) ∧ w = w' := by
  go_enter Try.func44, Try.ntmps44
  go_wp2_with (go_at_call 40; refine (within_any _ _ _ _).mono ?_; rintro e w' ⟨rfl, rfl⟩)
  go_ret
  exact ⟨rfl, rfl⟩
theorem isGroup_any (n : Int) (w : World) : Calls Try.prog 41 #[.int .i64 n] w fun e w' => e = .returned (.bool (inR n 0 7)) ∧ w = w' := by
  go_enter Try.func41, Try.ntmps41
  go_wp2_with (go_at_call 40; refine (within_any _ _ _ _).mono ?_; rintro e w' ⟨rfl, rfl⟩)
  go_ret
  exact ⟨rfl, rfl⟩
theorem isMode_any (n : Int) (w : World) : Calls Try.prog 42 #[.int .i64 n] w fun e w' => e = .returned (.bool (inR n 0 1023)) ∧ w = w' := by
  go_enter Try.func42, Try.ntmps42
  go_wp2_with (go_at_call 40; refine (within_any _ _ _ _).mono ?_; rintro e w' ⟨rfl, rfl⟩)
  go_ret
  exact ⟨rfl, rfl⟩
theorem sHasGroup_any (g k : Int) (w : World) : Calls Try.prog 15 #[.int .i64 g, .int .i64 k] w fun e w' => e = .returned (.bool (hasG g k)) ∧ w = w' := by
  by_cases hg : inR g 0 255 = true
  · by_cases hk : inR k 0 7 = true
    · obtain ⟨g0, g1⟩ := inR_iff.1 hg
      obtain ⟨k0, k1⟩ := inR_iff.1 hk
      have hd := div_pow_bd g k.toNat g0
      go_enter Try.func15, Try.ntmps15
      go_wp2_with (go_at_call 39; refine (l1In_any _ _ _ _).mono ?_; rintro e w' ⟨rfl, rfl⟩)
      go_ret
      exact ⟨ret_bool (by simp only [hasG, hg, hk, Bool.true_and]; rw [Bool.eq_iff_iff]; simp), rfl⟩
    · simp only [Bool.not_eq_true] at hk
      go_enter Try.func15, Try.ntmps15
      go_wp2_with (go_at_call 39; refine (l1In_any _ _ _ _).mono ?_; rintro e w' ⟨rfl, rfl⟩)
      go_ret
      exact ⟨ret_bool (by simp only [hasG, hg, hk, Bool.true_and, Bool.false_and]), rfl⟩
  · simp only [Bool.not_eq_true] at hg
    go_enter Try.func15, Try.ntmps15
    go_wp2_with (go_at_call 39; refine (l1In_any _ _ _ _).mono ?_; rintro e w' ⟨rfl, rfl⟩)
    go_ret
    exact ⟨ret_bool (by simp only [hasG, hg, Bool.false_and]), rfl⟩
theorem iHasGroup_any (g k : Int) (w : World) : Calls Try.prog 16 #[.int .i64 g, .int .i64 k] w fun e w' => e = .returned (.bool (hasG g k)) ∧ w = w' := by
  by_cases hg : inR g 0 255 = true
  · by_cases hk : inR k 0 7 = true
    · obtain ⟨g0, g1⟩ := inR_iff.1 hg
      obtain ⟨k0, k1⟩ := inR_iff.1 hk
      have hd := div_pow_bd g k.toNat g0
      have hb := i64_and1 (g / 2 ^ k.toNat) (by omega) (by omega)
      go_enter Try.func16, Try.ntmps16
      go_wp2_with (first | (go_at_call 40; refine (within_any _ _ _ _).mono ?_; rintro e w' ⟨rfl, rfl⟩) | (go_at_call 41; refine (isGroup_any _ _).mono ?_; rintro e w' ⟨rfl, rfl⟩))
      go_ret
      exact ⟨ret_bool (by simp only [hasG, hg, hk, Bool.true_and]; rw [Bool.eq_iff_iff]; simp), rfl⟩
    · simp only [Bool.not_eq_true] at hk
      go_enter Try.func16, Try.ntmps16
      go_wp2_with (first | (go_at_call 40; refine (within_any _ _ _ _).mono ?_; rintro e w' ⟨rfl, rfl⟩) | (go_at_call 41; refine (isGroup_any _ _).mono ?_; rintro e w' ⟨rfl, rfl⟩))
      go_ret
      exact ⟨ret_bool (by simp only [hasG, hg, hk, Bool.true_and, Bool.false_and]), rfl⟩
  · simp only [Bool.not_eq_true] at hg
    go_enter Try.func16, Try.ntmps16
    go_wp2_with (first | (go_at_call 40; refine (within_any _ _ _ _).mono ?_; rintro e w' ⟨rfl, rfl⟩) | (go_at_call 41; refine (isGroup_any _ _).mono ?_; rintro e w' ⟨rfl, rfl⟩))
    go_ret
    exact ⟨ret_bool (by simp only [hasG, hg, Bool.false_and]), rfl⟩
theorem sCredValid_any (c : Cr) (w : World) : Calls Try.prog 23 #[c.v] w fun e w' => e = .returned (.bool c.ok) ∧ Below w.heap.size w w' := by
  go_enter Try.func23, Try.ntmps23
  go_wp2_with (go_at_call 39; refine (l1In_any _ _ _ _).mono ?_; rintro e w' ⟨rfl, rfl⟩)
  all_goals go_ret
  all_goals exact ⟨ret_bool (by simp [Cr.ok, *]), (Below.refl _ _).alloc (Nat.le_refl _) _⟩
theorem iCredValid_any (c : Cr) (w : World) : Calls Try.prog 25 #[c.v] w fun e w' => e = .returned (.bool c.ok) ∧ Below w.heap.size w w' := by
  go_enter Try.func25, Try.ntmps25
  go_wp2_with (first | (go_at_call 44; refine (isUser_any _ _).mono ?_; rintro e w' ⟨rfl, rfl⟩) | (go_at_call 40; refine (within_any _ _ _ _).mono ?_; rintro e w' ⟨rfl, rfl⟩))
  all_goals go_ret
  all_goals exact ⟨ret_bool (by simp [Cr.ok, *]), (Below.refl _ _).alloc (Nat.le_refl _) _⟩
theorem toCred_any (c : Cr) (w : World) : Calls Try.prog 24 #[c.v] w fun e w' => e = .returned c.v ∧ Below w.heap.size w w' := by
  go_enter Try.func24, Try.ntmps24
  go_wp2
  exact bodyPost_ret (v := c.v) (by simp [results, Try.results24, go_sem]) rfl ⟨rfl, by repeat (first | exact Below.refl _ _ | refine Below.setCell ?_ (by simp) _ | refine Below.alloc ?_ (by simp <;> omega) _)⟩
end Go.Proofs.Ytifbhdhejplcfaa
