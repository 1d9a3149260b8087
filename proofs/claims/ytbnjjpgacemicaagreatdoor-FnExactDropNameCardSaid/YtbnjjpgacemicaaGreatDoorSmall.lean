/-
  Contracts of the small functions: ranges, groups, rights, credentials, classes.
  Conditions: none but where a contract names them.
-/
import Derived.Test.YtbnjjpgacemicaaGreatDoorPlain
import Derived.Outline
namespace Go.Proofs.YtbnjjpgacemicaaGreatDoor
open Go.ChangeShapes Go.WideShapes Go.ChangeAt Go.RowKit
set_option maxHeartbeats 1000000

theorem bcell {W w1 : World} (hb : Below W.heap.size W w1) : (∀ b o, b < W.heap.size → w1.cell? ⟨b, o, none⟩ = W.cell? ⟨b, o, none⟩) ∧ (∀ b o, b < W.heap.size → w1.frozen? ⟨b, o, none⟩ = W.frozen? ⟨b, o, none⟩) :=
  ⟨fun b o h => hb.cell (p := ⟨b, o, none⟩) h, fun b o h => hb.frozen (p := ⟨b, o, none⟩) h⟩

theorem l1In_any (n lo hi : Int) (w : World) : Calls Tryz.prog 46 #[.int .i64 n, .int .i64 lo, .int .i64 hi] w fun e w' => e = .returned (.bool (inR n lo hi)) ∧ w = w' := by
  by_cases h : lo ≤ n
  · go_enter Tryz.func46, Tryz.ntmps46
    go_wp2
    go_ret
    exact ⟨ret_bool (by simp [inR, h]), rfl⟩
  · go_enter Tryz.func46, Tryz.ntmps46
    go_wp2
    go_ret
    exact ⟨ret_bool (by rw [inR, decide_eq_false (by omega), Bool.false_and]), rfl⟩
theorem within_any (n lo hi : Int) (w : World) : Calls Tryz.prog 85 #[.int .i64 n, .int .i64 lo, .int .i64 hi] w fun e w' => e = .returned (.bool (inR n lo hi)) ∧ w = w' := by
  by_cases h : lo ≤ n
  · go_enter Tryz.func85, Tryz.ntmps85
    go_wp2
    go_ret
    exact ⟨ret_bool (by simp [inR, h]), rfl⟩
  · go_enter Tryz.func85, Tryz.ntmps85
    go_wp2
    go_ret
    exact ⟨ret_bool (by rw [inR, decide_eq_false (by omega), Bool.false_and]), rfl⟩
theorem isUser_any (n : Int) (w : World) : Calls Tryz.prog 93 #[.int .i64 n] w fun e w' => e = .returned (.bool (inR n 0 99)) ∧ w = w' := by
  go_enter Tryz.func93, Tryz.ntmps93
  go_wp2_with (go_at_call 85; refine (within_any _ _ _ _).mono ?_; rintro e w' ⟨rfl, rfl⟩)
  go_ret
  exact ⟨rfl, rfl⟩
theorem isGroup_any (n : Int) (w : World) : Calls Tryz.prog 108 #[.int .i64 n] w fun e w' => e = .returned (.bool (inR n 0 7)) ∧ w = w' := by
  go_enter Tryz.func108, Tryz.ntmps108
  go_wp2_with (go_at_call 85; refine (within_any _ _ _ _).mono ?_; rintro e w' ⟨rfl, rfl⟩)
  go_ret
  exact ⟨rfl, rfl⟩
theorem isMode_any (n : Int) (w : World) : Calls Tryz.prog 49 #[.int .i64 n] w fun e w' => e = .returned (.bool (inR n 0 1023)) ∧ w = w' := by
  go_enter Tryz.func49, Tryz.ntmps49
  go_wp2_with (go_at_call 85; refine (within_any _ _ _ _).mono ?_; rintro e w' ⟨rfl, rfl⟩)
  go_ret
  exact ⟨rfl, rfl⟩
theorem sHasGroup_any (g k : Int) (w : World) : Calls Tryz.prog 126 #[.int .i64 g, .int .i64 k] w fun e w' => e = .returned (.bool (hasG g k)) ∧ w = w' := by
  by_cases hg : inR g 0 255 = true
  · by_cases hk : inR k 0 7 = true
    · obtain ⟨g0, g1⟩ := inR_iff.1 hg
      obtain ⟨k0, k1⟩ := inR_iff.1 hk
      have hd := div_pow_bd g k.toNat g0
      go_enter Tryz.func126, Tryz.ntmps126
      go_wp2_with (go_at_call 46; refine (l1In_any _ _ _ _).mono ?_; rintro e w' ⟨rfl, rfl⟩)
      go_ret
      exact ⟨ret_bool (by simp only [hasG, hg, hk, Bool.true_and]; rw [Bool.eq_iff_iff]; simp), rfl⟩
    · simp only [Bool.not_eq_true] at hk
      go_enter Tryz.func126, Tryz.ntmps126
      go_wp2_with (go_at_call 46; refine (l1In_any _ _ _ _).mono ?_; rintro e w' ⟨rfl, rfl⟩)
      go_ret
      exact ⟨ret_bool (by simp only [hasG, hg, hk, Bool.true_and, Bool.false_and]), rfl⟩
  · simp only [Bool.not_eq_true] at hg
    go_enter Tryz.func126, Tryz.ntmps126
    go_wp2_with (go_at_call 46; refine (l1In_any _ _ _ _).mono ?_; rintro e w' ⟨rfl, rfl⟩)
    go_ret
    exact ⟨ret_bool (by simp only [hasG, hg, Bool.false_and]), rfl⟩
theorem iHasGroup_any (g k : Int) (w : World) : Calls Tryz.prog 127 #[.int .i64 g, .int .i64 k] w fun e w' => e = .returned (.bool (hasG g k)) ∧ w = w' := by
  by_cases hg : inR g 0 255 = true
  · by_cases hk : inR k 0 7 = true
    · obtain ⟨g0, g1⟩ := inR_iff.1 hg
      obtain ⟨k0, k1⟩ := inR_iff.1 hk
      have hd := div_pow_bd g k.toNat g0
      have hb := i64_and1 (g / 2 ^ k.toNat) (by omega) (by omega)
      go_enter Tryz.func127, Tryz.ntmps127
      go_wp2_with (first | (go_at_call 85; refine (within_any _ _ _ _).mono ?_; rintro e w' ⟨rfl, rfl⟩) | (go_at_call 108; refine (isGroup_any _ _).mono ?_; rintro e w' ⟨rfl, rfl⟩))
      go_ret
      exact ⟨ret_bool (by simp only [hasG, hg, hk, Bool.true_and]; rw [Bool.eq_iff_iff]; simp), rfl⟩
    · simp only [Bool.not_eq_true] at hk
      go_enter Tryz.func127, Tryz.ntmps127
      go_wp2_with (first | (go_at_call 85; refine (within_any _ _ _ _).mono ?_; rintro e w' ⟨rfl, rfl⟩) | (go_at_call 108; refine (isGroup_any _ _).mono ?_; rintro e w' ⟨rfl, rfl⟩))
      go_ret
      exact ⟨ret_bool (by simp only [hasG, hg, hk, Bool.true_and, Bool.false_and]), rfl⟩
  · simp only [Bool.not_eq_true] at hg
    go_enter Tryz.func127, Tryz.ntmps127
    go_wp2_with (first | (go_at_call 85; refine (within_any _ _ _ _).mono ?_; rintro e w' ⟨rfl, rfl⟩) | (go_at_call 108; refine (isGroup_any _ _).mono ?_; rintro e w' ⟨rfl, rfl⟩))
    go_ret
    exact ⟨ret_bool (by simp only [hasG, hg, Bool.false_and]), rfl⟩
@[reducible] def Cr.o (c : Cr) : Obj := .cells #[.int .i64 c.real, .int .i64 c.acts, .int .i64 c.saved, .int .i64 c.groups] 30
theorem sCredValid_ex (c : Cr) (w : World) : Calls Tryz.prog 55 #[c.v] w fun e w' => e = .returned (.bool c.ok) ∧ w.alloc c.o = w' := by
  go_enter Tryz.func55, Tryz.ntmps55
  go_wp2_with (go_at_call 46; refine (l1In_any _ _ _ _).mono ?_; rintro e w' ⟨rfl, rfl⟩)
  all_goals go_ret
  all_goals exact ⟨ret_bool (by simp [Cr.ok, *]), rfl⟩
theorem sCredValid_any (c : Cr) (w : World) : Calls Tryz.prog 55 #[c.v] w fun e w' => e = .returned (.bool c.ok) ∧ Below w.heap.size w w' :=
  (sCredValid_ex c w).mono fun _ _ ⟨h, k⟩ => ⟨h, k ▸ (Below.refl _ _).alloc (Nat.le_refl _) _⟩
theorem iCredValid_ex (c : Cr) (w : World) : Calls Tryz.prog 59 #[c.v] w fun e w' => e = .returned (.bool c.ok) ∧ w.alloc c.o = w' := by
  go_enter Tryz.func59, Tryz.ntmps59
  go_wp2_with (first | (go_at_call 93; refine (isUser_any _ _).mono ?_; rintro e w' ⟨rfl, rfl⟩) | (go_at_call 85; refine (within_any _ _ _ _).mono ?_; rintro e w' ⟨rfl, rfl⟩))
  all_goals go_ret
  all_goals exact ⟨ret_bool (by simp [Cr.ok, *]), rfl⟩
theorem iCredValid_any (c : Cr) (w : World) : Calls Tryz.prog 59 #[c.v] w fun e w' => e = .returned (.bool c.ok) ∧ Below w.heap.size w w' :=
  (iCredValid_ex c w).mono fun _ _ ⟨h, k⟩ => ⟨h, k ▸ (Below.refl _ _).alloc (Nat.le_refl _) _⟩
theorem toCred_any (c : Cr) (w : World) : Calls Tryz.prog 12 #[c.v] w fun e w' => e = .returned c.v ∧ Below w.heap.size w w' := by
  go_enter Tryz.func12, Tryz.ntmps12
  go_wp2
  exact bodyPost_ret (v := c.v) (by simp [results, Tryz.results12, go_sem]) rfl ⟨rfl, by repeat (first | exact Below.refl _ _ | refine Below.setCell ?_ (by simp) _ | refine Below.alloc ?_ (by simp <;> omega) _)⟩
theorem sRightsFor_any (m k : Int) (w : World) : Calls Tryz.prog 114 #[.int .i64 m, .int .i64 k] w fun e w' => e = .returned (.int .i64 (rightsFor m k)) ∧ w = w' := by
  by_cases hm : inR m 0 1023 = true
  · by_cases hk : inR k 0 2 = true
    · obtain ⟨m0, m1⟩ := inR_iff.1 hm
      obtain ⟨k0, k1⟩ := inR_iff.1 hk
      have hd := div_pow_bd m (6 - 3 * k).toNat m0
      go_enter Tryz.func114, Tryz.ntmps114
      go_wp2_with (go_at_call 46; refine (l1In_any _ _ _ _).mono ?_; rintro e w' ⟨rfl, rfl⟩)
      go_ret
      exact ⟨ret_int (by simp [rightsFor, rightsOf, hm, hk]), rfl⟩
    · simp only [Bool.not_eq_true] at hk
      go_enter Tryz.func114, Tryz.ntmps114
      go_wp2_with (go_at_call 46; refine (l1In_any _ _ _ _).mono ?_; rintro e w' ⟨rfl, rfl⟩)
      go_ret
      exact ⟨ret_int (by simp [rightsFor, hm, hk]), rfl⟩
  · simp only [Bool.not_eq_true] at hm
    go_enter Tryz.func114, Tryz.ntmps114
    go_wp2_with (go_at_call 46; refine (l1In_any _ _ _ _).mono ?_; rintro e w' ⟨rfl, rfl⟩)
    go_ret
    exact ⟨ret_int (by simp [rightsFor, hm]), rfl⟩
theorem rightsOf_any (m k : Int) (w : World) (hm : inR m 0 1023 = true) (hk : inR k 0 2 = true) : Calls Tryz.prog 115 #[.int .i64 m, .int .i64 k] w fun e w' => e = .returned (.int .i64 (rightsOf m k)) ∧ w = w' := by
  obtain ⟨m0, m1⟩ := inR_iff.1 hm
  obtain ⟨k0, k1⟩ := inR_iff.1 hk
  have hd := div_pow_bd m (6 - 3 * k).toNat m0
  have hb := i64_and7 (m / 2 ^ (6 - 3 * k).toNat) (by omega) (by omega)
  clear hm hk
  go_enter Tryz.func115, Tryz.ntmps115
  go_wp2
  go_ret
  exact ⟨ret_int (by simp [rightsOf]), rfl⟩
theorem sClassOf_any (c : Cr) (o g : Int) (w : World) : Calls Tryz.prog 113 #[c.v, .int .i64 o, .int .i64 g] w fun e w' => e = .returned (.int .i64 (classOf c o g)) ∧ Below w.heap.size w w' := by
  cases hc0 : c.ok <;> cases ho : inR o 0 99 <;> cases hg : inR g 0 7
  case true.true.true =>
    cases hao : (c.acts == o)
    rotate_left
    · have hao' := eq_of_beq hao
      have Hao := Lib.hid hao'
      clear hao'
      go_enter Tryz.func113, Tryz.ntmps113
      go_wp2_with (first | (go_at_call 46; refine (l1In_any _ _ _ _).mono ?_; rintro e w' ⟨rfl, rfl⟩) | (go_at_call 55; refine (sCredValid_any _ _).mono ?_; rintro e w1 ⟨rfl, hb⟩; obtain ⟨hc, hf⟩ := bcell hb) | (go_at_call 126; refine (sHasGroup_any _ _ _).mono ?_; rintro e w' ⟨rfl, rfl⟩))
      go_ret
      exact ⟨ret_int (by simp [classOf, clsOf, hc0, ho, hg, Hao.out]), ((Below.refl _ _).alloc (Nat.le_refl _) _).trans (hb.mono (by simp))⟩
    · have hao' : ¬ c.acts = o := by simpa using hao
      cases hh : hasG c.groups g
      all_goals
        go_enter Tryz.func113, Tryz.ntmps113
        go_wp2_with (first | (go_at_call 46; refine (l1In_any _ _ _ _).mono ?_; rintro e w' ⟨rfl, rfl⟩) | (go_at_call 55; refine (sCredValid_any _ _).mono ?_; rintro e w1 ⟨rfl, hb⟩; obtain ⟨hc, hf⟩ := bcell hb) | (go_at_call 126; refine (sHasGroup_any _ _ _).mono ?_; rintro e w' ⟨rfl, rfl⟩))
        go_ret
        exact ⟨ret_int (by simp [classOf, clsOf, hc0, ho, hg, hao', hh]), ((Below.refl _ _).alloc (Nat.le_refl _) _).trans (hb.mono (by simp))⟩
  all_goals
    go_enter Tryz.func113, Tryz.ntmps113
    go_wp2_with (first | (go_at_call 46; refine (l1In_any _ _ _ _).mono ?_; rintro e w' ⟨rfl, rfl⟩) | (go_at_call 55; refine (sCredValid_any _ _).mono ?_; rintro e w1 ⟨rfl, hb⟩; obtain ⟨hc, hf⟩ := bcell hb))
    go_ret
    exact ⟨ret_int (by simp [classOf, hc0, ho, hg]), ((Below.refl _ _).alloc (Nat.le_refl _) _).trans (hb.mono (by simp))⟩
theorem clsOf_any (c : Cr) (o g : Int) (w : World) : Calls Tryz.prog 116 #[c.v, .int .i64 o, .int .i64 g] w fun e w' => e = .returned (.int .i64 (clsOf c o g)) ∧ Below w.heap.size w w' := by
  cases hao : (c.acts == o)
  rotate_left
  · have hao' := eq_of_beq hao
    have Hao := Lib.hid hao'
    clear hao'
    go_enter Tryz.func116, Tryz.ntmps116
    go_wp2_with (go_at_call 127; refine (iHasGroup_any _ _ _).mono ?_; rintro e w' ⟨rfl, rfl⟩)
    go_ret
    exact ⟨ret_int (by simp [clsOf, Hao.out]), (Below.refl _ _).alloc (Nat.le_refl _) _⟩
  · have hao' : ¬ c.acts = o := by simpa using hao
    cases hh : hasG c.groups g
    all_goals
      go_enter Tryz.func116, Tryz.ntmps116
      go_wp2_with (go_at_call 127; refine (iHasGroup_any _ _ _).mono ?_; rintro e w' ⟨rfl, rfl⟩)
      go_ret
      exact ⟨ret_int (by simp [clsOf, hao', hh]), (Below.refl _ _).alloc (Nat.le_refl _) _⟩
theorem toCred_ex (c : Cr) (w : World) : Calls Tryz.prog 12 #[c.v] w fun e w' => e = .returned c.v ∧ ∃ o1 o2 o3 : Obj, ((w.alloc o1).alloc o2).alloc o3 = w' := by
  go_enter Tryz.func12, Tryz.ntmps12
  go_wp2
  refine bodyPost_ret (v := c.v) (by simp [results, Tryz.results12, go_sem]) rfl ⟨rfl, ?_⟩
  exact ⟨_, _, _, rfl⟩

end Go.Proofs.YtbnjjpgacemicaaGreatDoor
