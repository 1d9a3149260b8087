/-
  Contracts: NameValid and FaultText, the program's and the reference's.
  Conditions: none but a string's own bound.
-/
import Derived.Test.YtbiaamipfhgfeaaNamesP
import Derived.Test.YtbiaamipfhgfeaaSmall
namespace Go.Proofs.Ytbiaamipfhgfeaa
open Go.ChangeShapes Go.WideShapes Go.ChangeAt Go.RowKit
set_option maxHeartbeats 1000000

theorem ch_cases (c : Nat) : ((c : Int) < 48 ∧ (c : Int) < 97) ∨ ((48 : Int) ≤ c ∧ (c : Int) ≤ 57) ∨ ((57 : Int) < c ∧ (c : Int) < 97 ∧ decide ((c : Int) ≤ 57) = false) ∨ ((97 : Int) ≤ c ∧ (c : Int) ≤ 122) ∨ ((122 : Int) < c ∧ decide ((c : Int) ≤ 122) = false ∧ decide ((c : Int) ≤ 57) = false) := by
  have h1 : decide ((c : Int) ≤ 57) = false ↔ (57 : Int) < c := by simp
  have h2 : decide ((c : Int) ≤ 122) = false ↔ (122 : Int) < c := by simp
  rw [h1, h2]; omega
theorem ch_no {k : Nat} {c : UInt8} (h : ¬ (97 ≤ (c.toNat : Int) ∧ (c.toNat : Int) ≤ 122)) (h' : ¬ (0 < k ∧ 48 ≤ (c.toNat : Int) ∧ (c.toNat : Int) ≤ 57)) : chOk k c = false := by
  simp only [chOk, low, dig, Bool.or_eq_false_iff, Bool.and_eq_false_iff, decide_eq_false_iff_not]; omega
theorem ch_yes {k : Nat} {c : UInt8} (h : (97 ≤ (c.toNat : Int) ∧ (c.toNat : Int) ≤ 122) ∨ (0 < k ∧ 48 ≤ (c.toNat : Int) ∧ (c.toNat : Int) ≤ 57)) : chOk k c = true := by
  simp only [chOk, low, dig, Bool.or_eq_true, Bool.and_eq_true, decide_eq_true_eq]; omega

theorem sNameValid_any (s : ByteArray) (w : World) (hs : s.size ≤ maxLen) : Calls Try.prog 24 #[.string s] w fun e w' => e = .returned (.bool (nameOk s.data.toList)) ∧ w = w' := by
  unfold maxLen at hs
  go_enter Try.func24, Try.ntmps24
  go_wp2
  go_loop [3] (fun i => ∃ k : Nat, k ≤ s.size ∧ i = .int .i64 k ∧ preOk (s.data.toList.take k) = true) (fun i => s.size - (intOf i).toNat)
  case atStart => exact ⟨0, Nat.zero_le _, rfl, rfl⟩
  case round =>
    obtain ⟨k, hk, rfl, hp⟩ := hrel
    have Hp := Lib.hid hp
    clear hp
    by_cases hlt : k < s.size
    · have Hs := Lib.hid (preOk_step s k hlt)
      have Hb := Lib.hid (nameOk_bad s k hlt)
      rcases Nat.eq_zero_or_pos k with hk0 | hk0
      · subst hk0
        rcases ch_cases s[0].toNat with ⟨h, h'⟩ | ⟨h, h'⟩ | ⟨h, h', d⟩ | ⟨h, h'⟩ | ⟨h, d, d'⟩
        all_goals
          go_wp2
          all_goals first
          | (go_ret
             exact ⟨ret_bool (by rw [Hb.out (ch_no (by omega) (by omega))]), rfl⟩)
          | (go_round
             case rel => exact ⟨1, by omega, rfl, by rw [Hs.out, Hp.out, ch_yes (by omega)]; rfl⟩
             case measure => simp [intOf]; omega)
      · have hkb : ((k : Int) == 0) = false := by simp; omega
        rcases ch_cases s[k].toNat with ⟨h, h'⟩ | ⟨h, h'⟩ | ⟨h, h', d⟩ | ⟨h, h'⟩ | ⟨h, d, d'⟩
        all_goals
          go_wp2
          all_goals first
          | (go_ret
             exact ⟨ret_bool (by rw [Hb.out (ch_no (by omega) (by omega))]), rfl⟩)
          | (go_round
             case rel => exact ⟨k + 1, by omega, by go_num, by rw [Hs.out, Hp.out, ch_yes (by omega)]; rfl⟩
             case measure => simp [intOf]; omega)
    · have hk' : k = s.size := by omega
      have He := Lib.hid (nameOk_end s (hk' ▸ Hp.out))
      clear hk'
      go_wp2_with (go_at_call 56; refine (l1In_any _ _ _ _).mono ?_; rintro e w' ⟨rfl, rfl⟩)
      go_ret
      exact ⟨ret_bool He.out.symm, rfl⟩
theorem iNameValid_any (s : ByteArray) (w : World) (hs : s.size ≤ maxLen) : Calls Try.prog 23 #[.string s] w fun e w' => e = .returned (.bool (nameOk s.data.toList)) ∧ w = w' := by
  unfold maxLen at hs
  go_enter Try.func23, Try.ntmps23
  go_wp2
  go_loop [6] (fun i => ∃ k : Nat, k ≤ s.size ∧ i = .int .i64 k ∧ preOk (s.data.toList.take k) = true) (fun i => s.size - (intOf i).toNat)
  case atStart => exact ⟨0, Nat.zero_le _, rfl, rfl⟩
  case round =>
    obtain ⟨k, hk, rfl, hp⟩ := hrel
    have Hp := Lib.hid hp
    clear hp
    by_cases hlt : k < s.size
    · have Hs := Lib.hid (preOk_step s k hlt)
      have Hb := Lib.hid (nameOk_bad s k hlt)
      rcases Nat.eq_zero_or_pos k with hk0 | hk0
      · subst hk0
        rcases ch_cases s[0].toNat with ⟨h, h'⟩ | ⟨h, h'⟩ | ⟨h, h', d⟩ | ⟨h, h'⟩ | ⟨h, d, d'⟩
        all_goals
          go_wp2
          all_goals first
          | (go_ret
             exact ⟨ret_bool (by rw [Hb.out (ch_no (by omega) (by omega))]), rfl⟩)
          | (go_round
             case rel => exact ⟨1, by omega, rfl, by rw [Hs.out, Hp.out, ch_yes (by omega)]; rfl⟩
             case measure => simp [intOf]; omega)
      · have hkb : ((k : Int) == 0) = false := by simp; omega
        rcases ch_cases s[k].toNat with ⟨h, h'⟩ | ⟨h, h'⟩ | ⟨h, h', d⟩ | ⟨h, h'⟩ | ⟨h, d, d'⟩
        all_goals
          go_wp2
          all_goals first
          | (go_ret
             exact ⟨ret_bool (by rw [Hb.out (ch_no (by omega) (by omega))]), rfl⟩)
          | (go_round
             case rel => exact ⟨k + 1, by omega, by go_num, by rw [Hs.out, Hp.out, ch_yes (by omega)]; rfl⟩
             case measure => simp [intOf]; omega)
    · have hk' : k = s.size := by omega
      have He := Lib.hid (nameOk_end s (hk' ▸ Hp.out))
      clear hk'
      go_wp2_with (go_at_call 54; refine (within_any _ _ _ _).mono ?_; rintro e w' ⟨rfl, rfl⟩)
      go_ret
      exact ⟨ret_bool He.out.symm, rfl⟩
theorem sFaultText_any (n : Int) (w : World) : Calls Try.prog 21 #[.int .i64 n] w fun e w' => e = .returned (.string (faultT n)) ∧ Below w.heap.size w w' := by
  cases hn : inR n 0 7
  · have Hn := Lib.hid (faultT_out hn)
    go_enter Try.func21, Try.ntmps21
    go_wp2_with (go_at_call 56; refine (l1In_any _ _ _ _).mono ?_; rintro e w' ⟨rfl, rfl⟩)
    go_ret
    exact ⟨by rw [Hn.out]; rfl, Below.refl _ _⟩
  · have h2 : n = 0 ∨ n = 1 ∨ n = 2 ∨ n = 3 ∨ n = 4 ∨ n = 5 ∨ n = 6 ∨ n = 7 := by
      have := inR_iff.1 hn; omega
    clear hn
    rcases h2 with rfl | rfl | rfl | rfl | rfl | rfl | rfl | rfl
    all_goals
      go_enter Try.func21, Try.ntmps21
      go_wp2_with (go_at_call 56; refine (l1In_any _ _ _ _).mono ?_; rintro e w' ⟨rfl, rfl⟩)
      go_ret
      exact ⟨rfl, by repeat (first | exact Below.refl _ _ | refine Below.alloc ?_ (by first | omega | (simp <;> omega)) _ | refine Below.setCell ?_ (by first | omega | (simp <;> omega)) _ | refine Below.trans ?_ (Below.mono (by assumption) (by first | omega | (simp <;> omega))))⟩
theorem iFaultText_any (n : Int) (w : World) : Calls Try.prog 20 #[.int .i64 n] w fun e w' => e = .returned (.string (faultT n)) ∧ Below w.heap.size w w' := by
  cases hn : inR n 0 7
  · have Hn := Lib.hid (faultT_out hn)
    go_enter Try.func20, Try.ntmps20
    go_wp2_with (go_at_call 54; refine (within_any _ _ _ _).mono ?_; rintro e w' ⟨rfl, rfl⟩)
    go_ret
    exact ⟨by rw [Hn.out]; rfl, Below.refl _ _⟩
  · have h2 : n = 0 ∨ n = 1 ∨ n = 2 ∨ n = 3 ∨ n = 4 ∨ n = 5 ∨ n = 6 ∨ n = 7 := by
      have := inR_iff.1 hn; omega
    clear hn
    have i0 : ∀ (x0 x1 x2 x3 x4 x5 x6 x7 : Value) (w : World), (Instr.index 55 (.agg #[x0, x1, x2, x3, x4, x5, x6, x7]) (.int .i64 0)).run Try.prog w = .ok x0 w := fun _ _ _ _ _ _ _ _ _ => by kernel_rfl
    have i1 : ∀ (x0 x1 x2 x3 x4 x5 x6 x7 : Value) (w : World), (Instr.index 55 (.agg #[x0, x1, x2, x3, x4, x5, x6, x7]) (.int .i64 1)).run Try.prog w = .ok x1 w := fun _ _ _ _ _ _ _ _ _ => by kernel_rfl
    have i2 : ∀ (x0 x1 x2 x3 x4 x5 x6 x7 : Value) (w : World), (Instr.index 55 (.agg #[x0, x1, x2, x3, x4, x5, x6, x7]) (.int .i64 2)).run Try.prog w = .ok x2 w := fun _ _ _ _ _ _ _ _ _ => by kernel_rfl
    have i3 : ∀ (x0 x1 x2 x3 x4 x5 x6 x7 : Value) (w : World), (Instr.index 55 (.agg #[x0, x1, x2, x3, x4, x5, x6, x7]) (.int .i64 3)).run Try.prog w = .ok x3 w := fun _ _ _ _ _ _ _ _ _ => by kernel_rfl
    have i4 : ∀ (x0 x1 x2 x3 x4 x5 x6 x7 : Value) (w : World), (Instr.index 55 (.agg #[x0, x1, x2, x3, x4, x5, x6, x7]) (.int .i64 4)).run Try.prog w = .ok x4 w := fun _ _ _ _ _ _ _ _ _ => by kernel_rfl
    have i5 : ∀ (x0 x1 x2 x3 x4 x5 x6 x7 : Value) (w : World), (Instr.index 55 (.agg #[x0, x1, x2, x3, x4, x5, x6, x7]) (.int .i64 5)).run Try.prog w = .ok x5 w := fun _ _ _ _ _ _ _ _ _ => by kernel_rfl
    have i6 : ∀ (x0 x1 x2 x3 x4 x5 x6 x7 : Value) (w : World), (Instr.index 55 (.agg #[x0, x1, x2, x3, x4, x5, x6, x7]) (.int .i64 6)).run Try.prog w = .ok x6 w := fun _ _ _ _ _ _ _ _ _ => by kernel_rfl
    have i7 : ∀ (x0 x1 x2 x3 x4 x5 x6 x7 : Value) (w : World), (Instr.index 55 (.agg #[x0, x1, x2, x3, x4, x5, x6, x7]) (.int .i64 7)).run Try.prog w = .ok x7 w := fun _ _ _ _ _ _ _ _ _ => by kernel_rfl
    rcases h2 with rfl | rfl | rfl | rfl | rfl | rfl | rfl | rfl
    all_goals
      go_enter Try.func20, Try.ntmps20
      go_wp2_with (go_at_call 54; refine (within_any _ _ _ _).mono ?_; rintro e w' ⟨rfl, rfl⟩)
      go_ret
      exact ⟨rfl, by repeat (first | exact Below.refl _ _ | refine Below.alloc ?_ (by first | omega | (simp <;> omega)) _ | refine Below.setCell ?_ (by first | omega | (simp <;> omega)) _ | refine Below.trans ?_ (Below.mono (by assumption) (by first | omega | (simp <;> omega))))⟩
end Go.Proofs.Ytbiaamipfhgfeaa
