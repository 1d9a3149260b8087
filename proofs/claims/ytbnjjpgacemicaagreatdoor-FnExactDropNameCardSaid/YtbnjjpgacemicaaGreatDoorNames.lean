/-
  Contracts: NameValid and FaultText, the program's and the reference's.
  Conditions: none but a string's own bound.
-/
import Derived.Test.YtbnjjpgacemicaaGreatDoorNamesP
import Derived.Test.YtbnjjpgacemicaaGreatDoorSmall
namespace Go.Proofs.YtbnjjpgacemicaaGreatDoor
open Go.ChangeShapes Go.WideShapes Go.ChangeAt Go.RowKit
set_option maxHeartbeats 1000000

theorem ch_cases (c : Nat) : ((c : Int) < 48 ∧ (c : Int) < 97) ∨ ((48 : Int) ≤ c ∧ (c : Int) ≤ 57) ∨ ((57 : Int) < c ∧ (c : Int) < 97 ∧ decide ((c : Int) ≤ 57) = false) ∨ ((97 : Int) ≤ c ∧ (c : Int) ≤ 122) ∨ ((122 : Int) < c ∧ decide ((c : Int) ≤ 122) = false ∧ decide ((c : Int) ≤ 57) = false) := by
  have h1 : decide ((c : Int) ≤ 57) = false ↔ (57 : Int) < c := by simp
  have h2 : decide ((c : Int) ≤ 122) = false ↔ (122 : Int) < c := by simp
  rw [h1, h2]; omega
theorem ch_no {k : Nat} {c : UInt8} (h : ¬ (97 ≤ (c.toNat : Int) ∧ (c.toNat : Int) ≤ 122)) (h' : ¬ (0 < k ∧ 48 ≤ (c.toNat : Int) ∧ (c.toNat : Int) ≤ 57)) : chOk k c = false := by
  simp only [chOk, low, dig, Bool.or_eq_false_iff, Bool.and_eq_false_iff, decide_eq_false_iff_not]; omega
theorem ch_yes {k : Nat} {c : UInt8} (h : (97 ≤ (c.toNat : Int) ∧ (c.toNat : Int) ≤ 122) ∨ (0 < k ∧ 48 ≤ (c.toNat : Int) ∧ (c.toNat : Int) ≤ 57)) : chOk k c = true := by
  simp only [chOk, low, dig, Bool.or_eq_true, Bool.and_eq_true, decide_eq_true_eq]; omega

theorem sNameValid_any (s : ByteArray) (w : World) (hs : s.size ≤ maxLen) : Calls Tryz.prog 89 #[.string s] w fun e w' => e = .returned (.bool (nameOk s.data.toList)) ∧ w = w' := by
  unfold maxLen at hs
  go_enter Tryz.func89, Tryz.ntmps89
  go_wp2
  go_loop [3] (fun i => ∃ k : Nat, k ≤ s.size ∧ i = .int .i64 k ∧ preOk (s.data.toList.take k) = true) (fun i => s.size - (intOf i).toNat)
  case atStart => exact ⟨0, Nat.zero_le _, rfl, rfl⟩
  case round =>
    obtain ⟨k, hk, rfl, hp⟩ := hrel
    have Hp := Lib.hid hp
    clear hp
    by_cases hlt : k < s.size
    · have Hs := Lib.hid (preOk_step s k hlt)
      have Hb := Lib.hid (nameOk_bad s k hlt)
      rcases Nat.eq_zero_or_pos k with hk0 | hk0
      · subst hk0
        rcases ch_cases s[0].toNat with ⟨h, h'⟩ | ⟨h, h'⟩ | ⟨h, h', d⟩ | ⟨h, h'⟩ | ⟨h, d, d'⟩
        all_goals
          go_wp2
          all_goals first
          | (go_ret
             exact ⟨ret_bool (by rw [Hb.out (ch_no (by omega) (by omega))]), rfl⟩)
          | (go_round
             case rel => exact ⟨1, by omega, rfl, by rw [Hs.out, Hp.out, ch_yes (by omega)]; rfl⟩
             case measure => simp [intOf]; omega)
      · have hkb : ((k : Int) == 0) = false := by simp; omega
        rcases ch_cases s[k].toNat with ⟨h, h'⟩ | ⟨h, h'⟩ | ⟨h, h', d⟩ | ⟨h, h'⟩ | ⟨h, d, d'⟩
        all_goals
          go_wp2
          all_goals first
          | (go_ret
             exact ⟨ret_bool (by rw [Hb.out (ch_no (by omega) (by omega))]), rfl⟩)
          | (go_round
             case rel => exact ⟨k + 1, by omega, by go_num, by rw [Hs.out, Hp.out, ch_yes (by omega)]; rfl⟩
             case measure => simp [intOf]; omega)
    · have hk' : k = s.size := by omega
      have He := Lib.hid (nameOk_end s (hk' ▸ Hp.out))
      clear hk'
      go_wp2_with (go_at_call 46; refine (l1In_any _ _ _ _).mono ?_; rintro e w' ⟨rfl, rfl⟩)
      go_ret
      exact ⟨ret_bool He.out.symm, rfl⟩
theorem iNameValid_any (s : ByteArray) (w : World) (hs : s.size ≤ maxLen) : Calls Tryz.prog 96 #[.string s] w fun e w' => e = .returned (.bool (nameOk s.data.toList)) ∧ w = w' := by
  unfold maxLen at hs
  go_enter Tryz.func96, Tryz.ntmps96
  go_wp2
  go_loop [6] (fun i => ∃ k : Nat, k ≤ s.size ∧ i = .int .i64 k ∧ preOk (s.data.toList.take k) = true) (fun i => s.size - (intOf i).toNat)
  case atStart => exact ⟨0, Nat.zero_le _, rfl, rfl⟩
  case round =>
    obtain ⟨k, hk, rfl, hp⟩ := hrel
    have Hp := Lib.hid hp
    clear hp
    by_cases hlt : k < s.size
    · have Hs := Lib.hid (preOk_step s k hlt)
      have Hb := Lib.hid (nameOk_bad s k hlt)
      rcases Nat.eq_zero_or_pos k with hk0 | hk0
      · subst hk0
        rcases ch_cases s[0].toNat with ⟨h, h'⟩ | ⟨h, h'⟩ | ⟨h, h', d⟩ | ⟨h, h'⟩ | ⟨h, d, d'⟩
        all_goals
          go_wp2
          all_goals first
          | (go_ret
             exact ⟨ret_bool (by rw [Hb.out (ch_no (by omega) (by omega))]), rfl⟩)
          | (go_round
             case rel => exact ⟨1, by omega, rfl, by rw [Hs.out, Hp.out, ch_yes (by omega)]; rfl⟩
             case measure => simp [intOf]; omega)
      · have hkb : ((k : Int) == 0) = false := by simp; omega
        rcases ch_cases s[k].toNat with ⟨h, h'⟩ | ⟨h, h'⟩ | ⟨h, h', d⟩ | ⟨h, h'⟩ | ⟨h, d, d'⟩
        all_goals
          go_wp2
          all_goals first
          | (go_ret
             exact ⟨ret_bool (by rw [Hb.out (ch_no (by omega) (by omega))]), rfl⟩)
          | (go_round
             case rel => exact ⟨k + 1, by omega, by go_num, by rw [Hs.out, Hp.out, ch_yes (by omega)]; rfl⟩
             case measure => simp [intOf]; omega)
    · have hk' : k = s.size := by omega
      have He := Lib.hid (nameOk_end s (hk' ▸ Hp.out))
      clear hk'
      go_wp2_with (go_at_call 85; refine (within_any _ _ _ _).mono ?_; rintro e w' ⟨rfl, rfl⟩)
      go_ret
      exact ⟨ret_bool He.out.symm, rfl⟩
end Go.Proofs.YtbnjjpgacemicaaGreatDoor
