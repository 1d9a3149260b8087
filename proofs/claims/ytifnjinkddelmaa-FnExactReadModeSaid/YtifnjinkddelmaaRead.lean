/-
  Contracts: ReadMode, the program's (it asks all modes) and the reference's (it reads the letters).
  Conditions: none but a string's own bound.
-/
import Derived.Test.YtifnjinkddelmaaReadP
import Derived.Test.YtifnjinkddelmaaMode
namespace Go.Proofs.Ytifnjinkddelmaa
open Go.ChangeShapes Go.WideShapes Go.ChangeAt Go.RowKit
set_option maxHeartbeats 2000000

set_option maxRecDepth 100000 in
theorem iReadMode_any (s : ByteArray) (w : World) (_hs : s.size ≤ maxLen) : Calls Try.prog 16 #[.string s] w fun e w' => e = .returned (.tuple #[.int .i64 (readN s), .bool (readB s)]) ∧ Below w.heap.size w w' := by
  go_enter Try.func16, Try.ntmps16
  go_wp2
  go_loopw [5] (fun i wr => ∃ k : Nat, k ≤ 1024 ∧ i = .int .i64 k ∧ (∀ m, m < k → modeHit s m = false) ∧ Below w.heap.size w wr) (fun i _ => (1024 - intOf i).toNat)
  case atStart => exact ⟨0, by omega, rfl, fun m hm => absurd hm (by omega), Below.refl _ _⟩
  case round =>
    obtain ⟨k, hk, rfl, hno, hb⟩ := hrel
    have Hno := Lib.hid hno
    clear hno
    by_cases hlt : k < 1024
    · go_wp2_with fail
      refine (iModeText_any _ _).mono ?_; rintro e w1 ⟨rfl, hb1⟩
      have HB := Lib.hid (hb.trans (hb1.mono hb.size))
      clear hb hb1
      cases hq : ((modeT (k : Int)).toList == s.toList)
      · go_wp2
        go_roundw
        case rel => exact ⟨k + 1, by omega, by go_num, fun m hm => by
          rcases Nat.lt_or_ge m k with h | h
          · exact Hno.out m h
          · obtain rfl : m = k := by omega
            exact hq, HB.out⟩
        case measure => simp [intOf]; omega
      · have Hr := Lib.hid (read_first hlt hq)
        go_wp2
        go_ret2
        exact ⟨by rw [Hr.out.1, Hr.out.2]; rfl, HB.out⟩
    · have Hr := Lib.hid (read_none (s := s) fun m hm => Hno.out m (by omega))
      go_wp2
      go_ret2
      exact ⟨by rw [Hr.out.1, Hr.out.2]; rfl, hb⟩
theorem take_ge9 (l : List UInt8) (k : Nat) (h : ¬ (k < l.length ∧ k < 9)) (hk : k ≤ l.length) (h9 : k ≤ 9) : l.take k = l.take 9 := by
  rcases Nat.lt_or_ge k 9 with h1 | h1
  · rw [List.take_of_length_le (by omega), List.take_of_length_le (by omega)]
  · have : k = 9 := by omega
    rw [this]
set_option maxHeartbeats 4000000 in
set_option maxRecDepth 100000 in
theorem sReadMode_any (s : ByteArray) (w : World) (hs : s.size ≤ maxLen) : Calls Try.prog 15 #[.string s] w fun e w' => e = .returned (.tuple #[.int .i64 (readN s), .bool (readB s)]) ∧ w = w' := by
  unfold maxLen at hs
  have hlen : s.data.toList.length = s.size := by simp
  have Hlen := Lib.hid hlen
  clear hlen
  go_enter Try.func15, Try.ntmps15
  go_wp2
  go_loop [4, 5] (fun md i => ∃ k n : Nat, k ≤ 9 ∧ k ≤ s.size ∧ i = .int .i64 k ∧ md = .int .i64 n ∧ n = parseL (s.data.toList.take k)) (fun _ i => (9 - intOf i).toNat)
  case atStart => exact ⟨0, 0, by omega, by omega, rfl, rfl, rfl⟩
  case round =>
    obtain ⟨k, n, hk, hks, rfl, rfl, hn⟩ := hrel
    have hn9 : n < 512 := by rw [hn]; exact parseL_bd (by simp; omega)
    have Hn := Lib.hid hn
    clear hn
    by_cases hlt : k < s.size ∧ k < 9
    · obtain ⟨h1, h2⟩ := hlt
      have hst : s.data.toList.take (k + 1) = s.data.toList.take k ++ [s[k]] := by
        rw [List.take_succ_eq_append_getElem (by simpa using h1)]; rfl
      have Hst := Lib.hid hst
      clear hst
      have hi : (k : Int) < (s.size : Int) := by omega
      cases hc : ((s[k].toNat : Int) != 45)
      · have hc' : s[k] = 45 := by
          have : (s[k].toNat : Int) = 45 := by simpa using hc
          exact UInt8.toNat_inj.1 (by show s[k].toNat = 45; omega)
        have Hc := Lib.hid hc'
        clear hc'
        go_wp2
        go_round
        case rel => exact ⟨k + 1, 2 * n, by omega, by omega, by go_num, by go_num, by rw [Hst.out, parseL_snoc, ← Hn.out, Hc.out]; rfl⟩
        case measure => simp [intOf]; omega
      · have hc' : ¬ s[k] = 45 := by
          intro h; rw [h] at hc; simp at hc
        have Hc := Lib.hid hc'
        clear hc'
        go_wp2
        go_round
        case rel => exact ⟨k + 1, 2 * n + 1, by omega, by omega, by go_num, by go_num, by rw [Hst.out, parseL_snoc, ← Hn.out, if_neg Hc.out]⟩
        case measure => simp [intOf]; omega
    · have hte : n = parseL (s.data.toList.take 9) := by
        rw [Hn.out, take_ge9 _ k (by rw [Hlen.out]; exact hlt) (by rw [Hlen.out]; exact hks) hk]
      have Hte := Lib.hid hte
      have hbl : s.toList = s.data.toList := ByteArray.toList_eq s
      have Hbl := Lib.hid hbl
      clear hte hbl
      have hk9 : k = 9 ∨ k = s.size := by omega
      have hex : ((k : Int) < (s.size : Int) ∧ (k : Int) < 9) = False := by simp; omega
      have hn0 : (0 : Int) ≤ n := by omega
      have hn1 : (n : Int) < 512 := by omega
      cases h10 : ((s.size : Int) == 10)
      · have hsz : s.size ≠ 10 := by simpa using fun h : s.size = 10 => by rw [h] at h10; simp at h10
        have hP : (parseM s.toList : Int) = n := by
          rw [parseM, Hbl.out, if_neg (by rw [Hlen.out]; exact hsz), ← Hte.out]; simp
        have HP := Lib.hid hP
        clear hP hsz
        cases h9 : inR s.size 9 10
        · have Hr := Lib.hid (read_len (s := s) (by rw [Hbl.out, Hlen.out]; have := inR_not.1 h9; omega))
          by_cases hks' : k < s.size
          all_goals
            go_wp2_with (first | (go_at_call 49; refine (l1In_any _ _ _ _).mono ?_; rintro e w' ⟨rfl, rfl⟩) | (go_at_call 50; refine (sModeText_any _ _).mono ?_; rintro e w' ⟨rfl, rfl⟩))
            go_ret2
            exact ⟨by rw [Hr.out.1, Hr.out.2]; rfl, rfl⟩
        · cases hm : ((modeT (n : Int)).toList == s.toList)
          · have Hr := Lib.hid (read_no (s := s) (by rw [modeHit, HP.out]; exact hm))
            by_cases hks' : k < s.size
            all_goals
              go_wp2_with (first | (go_at_call 49; refine (l1In_any _ _ _ _).mono ?_; rintro e w' ⟨rfl, rfl⟩) | (go_at_call 50; refine (sModeText_any _ _).mono ?_; rintro e w' ⟨rfl, rfl⟩))
              go_ret2
              exact ⟨by rw [Hr.out.1, Hr.out.2]; rfl, rfl⟩
          · have Hr := Lib.hid (read_yes (s := s) (by rw [modeHit, HP.out]; exact hm))
            by_cases hks' : k < s.size
            all_goals
              go_wp2_with (first | (go_at_call 49; refine (l1In_any _ _ _ _).mono ?_; rintro e w' ⟨rfl, rfl⟩) | (go_at_call 50; refine (sModeText_any _ _).mono ?_; rintro e w' ⟨rfl, rfl⟩))
              go_ret2
              exact ⟨by rw [Hr.out.1, Hr.out.2, HP.out]; rfl, rfl⟩
      · have hsz : s.size = 10 := by
          have h10' : (s.size : Int) = 10 := by simpa using h10
          omega
        have hP : (parseM s.toList : Int) = (n : Int) + 512 := by
          rw [parseM, Hbl.out, if_pos (by rw [Hlen.out]; exact hsz), ← Hte.out]; simp
        have HP := Lib.hid hP
        have h9 : inR s.size 9 10 = true := inR_yes (by omega) (by omega)
        have hks' : k < s.size := by omega
        clear hP hsz
        cases hm : ((modeT ((n : Int) + 512)).toList == s.toList)
        · have Hr := Lib.hid (read_no (s := s) (by rw [modeHit, HP.out]; exact hm))
          go_wp2_with (first | (go_at_call 49; refine (l1In_any _ _ _ _).mono ?_; rintro e w' ⟨rfl, rfl⟩) | (go_at_call 50; refine (sModeText_any _ _).mono ?_; rintro e w' ⟨rfl, rfl⟩))
          go_ret2
          exact ⟨by rw [Hr.out.1, Hr.out.2]; rfl, rfl⟩
        · have Hr := Lib.hid (read_yes (s := s) (by rw [modeHit, HP.out]; exact hm))
          go_wp2_with (first | (go_at_call 49; refine (l1In_any _ _ _ _).mono ?_; rintro e w' ⟨rfl, rfl⟩) | (go_at_call 50; refine (sModeText_any _ _).mono ?_; rintro e w' ⟨rfl, rfl⟩))
          go_ret2
          exact ⟨by rw [Hr.out.1, Hr.out.2, HP.out]; rfl, rfl⟩
end Go.Proofs.Ytifnjinkddelmaa
