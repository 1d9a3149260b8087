/-
  Contracts: ModeText, the reference's and the program's.
  Conditions: none.
-/
import Derived.Test.YtifnjinkddelmaaModeP
import Derived.Test.YtifnjinkddelmaaSmall
import Derived.Test.YtifnjinkddelmaaOwn
import Derived.Laws.AppendOwn
import Derived.Laws.BytesString
import Derived.Laws.OwnMore
namespace Go.Proofs.Ytifnjinkddelmaa
open Go.ChangeShapes Go.WideShapes Go.ChangeAt Go.RowKit
set_option maxHeartbeats 2000000

theorem cat1 (l : List UInt8) (c : UInt8) : (⟨l.toArray⟩ : ByteArray) ++ (⟨#[c]⟩ : ByteArray) = ⟨(l ++ [c]).toArray⟩ := by
  apply ByteArray.ext
  simp [ByteArray.data_append]
theorem mode_step {m : Int} {j : Nat} {l : List UInt8} {c : UInt8} (h : l = modeP m j) (hc : mch m (8 - j) = c) : Value.string ((⟨l.toArray⟩ : ByteArray) ++ (⟨#[c]⟩ : ByteArray)) = Value.string ⟨(modeP m (j + 1)).toArray⟩ := by
  rw [cat1, h, ← hc]; rfl
theorem mode_snoc {m : Int} {j : Nat} {l : List UInt8} {c : UInt8} (h : l = modeP m j) (hc : mch m (8 - j) = c) : l ++ [c] = modeP m (j + 1) := by
  rw [h, ← hc]; rfl
theorem mch_yes {m v : Int} {k : Nat} (hv : (2 : Int) ^ k = v) (h : (m / v % 2 == 1) = true) : mch m k = mletter k := by
  rw [mch, hv, if_pos (by simpa using h)]
theorem mch_no {m v : Int} {k : Nat} (hv : (2 : Int) ^ k = v) (h : (m / v % 2 == 1) = false) : mch m k = 45 := by
  rw [mch, hv, if_neg (by simpa using h)]
theorem mode_end_yes {m : Int} {l : List UInt8} (h : l = modeP m 9) (hm : inR m 0 1023 = true) (h5 : 512 ≤ m) : (⟨l.toArray⟩ : ByteArray) ++ (⟨#[43]⟩ : ByteArray) = modeT m := by
  rw [cat1, modeT_in hm, modeL, if_pos h5, h]
theorem mode_end_no {m : Int} {l : List UInt8} (h : l = modeP m 9) (hm : inR m 0 1023 = true) (h5 : ¬ 512 ≤ m) : (⟨l.toArray⟩ : ByteArray) = modeT m := by
  rw [modeT_in hm, modeL, if_neg h5, h, List.append_nil]

theorem sModeText_any (m : Int) (w : World) : Calls Try.prog 50 #[.int .i64 m] w fun e w' => e = .returned (.string (modeT m)) ∧ w = w' := by
  cases hm : inR m 0 1023
  · have Hn := Lib.hid (modeT_out hm)
    go_enter Try.func50, Try.ntmps50
    go_wp2_with (go_at_call 49; refine (l1In_any _ _ _ _).mono ?_; rintro e w' ⟨rfl, rfl⟩)
    go_ret
    exact ⟨by rw [Hn.out]; rfl, rfl⟩
  · obtain ⟨m0, m1⟩ := inR_iff.1 hm
    have Hm := Lib.hid hm
    have x0 : ({ data := #[120, 119, 114] } : ByteArray).extract 0 1 = { data := #[120] } := by decide
    have x1 : ({ data := #[120, 119, 114] } : ByteArray).extract 1 2 = { data := #[119] } := by decide
    have x2 : ({ data := #[120, 119, 114] } : ByteArray).extract 2 3 = { data := #[114] } := by decide
    go_enter Try.func50, Try.ntmps50
    go_wp2_with (go_at_call 49; refine (l1In_any _ _ _ _).mono ?_; rintro e w' ⟨rfl, rfl⟩)
    clear hm
    go_loop [3, 4] (fun s i => ∃ (j : Nat) (l : List UInt8), j ≤ 9 ∧ i = .int .i64 (8 - (j : Int)) ∧ s = .string ⟨l.toArray⟩ ∧ l.length ≤ 9 ∧ l = modeP m j) (fun _ i => (intOf i + 1).toNat)
    case atStart => exact ⟨0, [], by omega, rfl, rfl, by simp, rfl⟩
    case round =>
      obtain ⟨j, l, hj, rfl, rfl, hl, hlp⟩ := hrel
      have Hl := Lib.hid hlp
      clear hlp
      have hcs : j = 0 ∨ j = 1 ∨ j = 2 ∨ j = 3 ∨ j = 4 ∨ j = 5 ∨ j = 6 ∨ j = 7 ∨ j = 8 ∨ j = 9 := by omega
      rcases hcs with rfl | rfl | rfl | rfl | rfl | rfl | rfl | rfl | rfl | rfl
      · cases hb : (m / 256 % 2 == 1)
        · go_wp2
          go_round
          case rel => exact ⟨1, _, by omega, rfl, congrArg Value.string (cat1 _ _), by rw [List.length_append, Hl.out, modeP_len]; simp, mode_snoc (j := 1 - 1) Hl.out (mch_no (k := 8) (v := 256) (by decide) hb)⟩
          case measure => simp [intOf]
        · go_wp2
          go_round
          case rel => exact ⟨1, _, by omega, rfl, congrArg Value.string (cat1 _ _), by rw [List.length_append, Hl.out, modeP_len]; simp, mode_snoc (j := 1 - 1) Hl.out ((mch_yes (k := 8) (v := 256) (by decide) hb).trans rfl)⟩
          case measure => simp [intOf]
      · cases hb : (m / 128 % 2 == 1)
        · go_wp2
          go_round
          case rel => exact ⟨2, _, by omega, rfl, congrArg Value.string (cat1 _ _), by rw [List.length_append, Hl.out, modeP_len]; simp, mode_snoc (j := 2 - 1) Hl.out (mch_no (k := 7) (v := 128) (by decide) hb)⟩
          case measure => simp [intOf]
        · go_wp2
          go_round
          case rel => exact ⟨2, _, by omega, rfl, congrArg Value.string (cat1 _ _), by rw [List.length_append, Hl.out, modeP_len]; simp, mode_snoc (j := 2 - 1) Hl.out ((mch_yes (k := 7) (v := 128) (by decide) hb).trans rfl)⟩
          case measure => simp [intOf]
      · cases hb : (m / 64 % 2 == 1)
        · go_wp2
          go_round
          case rel => exact ⟨3, _, by omega, rfl, congrArg Value.string (cat1 _ _), by rw [List.length_append, Hl.out, modeP_len]; simp, mode_snoc (j := 3 - 1) Hl.out (mch_no (k := 6) (v := 64) (by decide) hb)⟩
          case measure => simp [intOf]
        · go_wp2
          go_round
          case rel => exact ⟨3, _, by omega, rfl, congrArg Value.string (cat1 _ _), by rw [List.length_append, Hl.out, modeP_len]; simp, mode_snoc (j := 3 - 1) Hl.out ((mch_yes (k := 6) (v := 64) (by decide) hb).trans rfl)⟩
          case measure => simp [intOf]
      · cases hb : (m / 32 % 2 == 1)
        · go_wp2
          go_round
          case rel => exact ⟨4, _, by omega, rfl, congrArg Value.string (cat1 _ _), by rw [List.length_append, Hl.out, modeP_len]; simp, mode_snoc (j := 4 - 1) Hl.out (mch_no (k := 5) (v := 32) (by decide) hb)⟩
          case measure => simp [intOf]
        · go_wp2
          go_round
          case rel => exact ⟨4, _, by omega, rfl, congrArg Value.string (cat1 _ _), by rw [List.length_append, Hl.out, modeP_len]; simp, mode_snoc (j := 4 - 1) Hl.out ((mch_yes (k := 5) (v := 32) (by decide) hb).trans rfl)⟩
          case measure => simp [intOf]
      · cases hb : (m / 16 % 2 == 1)
        · go_wp2
          go_round
          case rel => exact ⟨5, _, by omega, rfl, congrArg Value.string (cat1 _ _), by rw [List.length_append, Hl.out, modeP_len]; simp, mode_snoc (j := 5 - 1) Hl.out (mch_no (k := 4) (v := 16) (by decide) hb)⟩
          case measure => simp [intOf]
        · go_wp2
          go_round
          case rel => exact ⟨5, _, by omega, rfl, congrArg Value.string (cat1 _ _), by rw [List.length_append, Hl.out, modeP_len]; simp, mode_snoc (j := 5 - 1) Hl.out ((mch_yes (k := 4) (v := 16) (by decide) hb).trans rfl)⟩
          case measure => simp [intOf]
      · cases hb : (m / 8 % 2 == 1)
        · go_wp2
          go_round
          case rel => exact ⟨6, _, by omega, rfl, congrArg Value.string (cat1 _ _), by rw [List.length_append, Hl.out, modeP_len]; simp, mode_snoc (j := 6 - 1) Hl.out (mch_no (k := 3) (v := 8) (by decide) hb)⟩
          case measure => simp [intOf]
        · go_wp2
          go_round
          case rel => exact ⟨6, _, by omega, rfl, congrArg Value.string (cat1 _ _), by rw [List.length_append, Hl.out, modeP_len]; simp, mode_snoc (j := 6 - 1) Hl.out ((mch_yes (k := 3) (v := 8) (by decide) hb).trans rfl)⟩
          case measure => simp [intOf]
      · cases hb : (m / 4 % 2 == 1)
        · go_wp2
          go_round
          case rel => exact ⟨7, _, by omega, rfl, congrArg Value.string (cat1 _ _), by rw [List.length_append, Hl.out, modeP_len]; simp, mode_snoc (j := 7 - 1) Hl.out (mch_no (k := 2) (v := 4) (by decide) hb)⟩
          case measure => simp [intOf]
        · go_wp2
          go_round
          case rel => exact ⟨7, _, by omega, rfl, congrArg Value.string (cat1 _ _), by rw [List.length_append, Hl.out, modeP_len]; simp, mode_snoc (j := 7 - 1) Hl.out ((mch_yes (k := 2) (v := 4) (by decide) hb).trans rfl)⟩
          case measure => simp [intOf]
      · cases hb : (m / 2 % 2 == 1)
        · go_wp2
          go_round
          case rel => exact ⟨8, _, by omega, rfl, congrArg Value.string (cat1 _ _), by rw [List.length_append, Hl.out, modeP_len]; simp, mode_snoc (j := 8 - 1) Hl.out (mch_no (k := 1) (v := 2) (by decide) hb)⟩
          case measure => simp [intOf]
        · go_wp2
          go_round
          case rel => exact ⟨8, _, by omega, rfl, congrArg Value.string (cat1 _ _), by rw [List.length_append, Hl.out, modeP_len]; simp, mode_snoc (j := 8 - 1) Hl.out ((mch_yes (k := 1) (v := 2) (by decide) hb).trans rfl)⟩
          case measure => simp [intOf]
      · cases hb : (m % 2 == 1)
        · go_wp2
          go_round
          case rel => exact ⟨9, _, by omega, rfl, congrArg Value.string (cat1 _ _), by rw [List.length_append, Hl.out, modeP_len]; simp, mode_snoc (j := 9 - 1) Hl.out (mch_no (k := 0) (v := 1) (by decide) (by rw [Int.ediv_one]; exact hb))⟩
          case measure => simp [intOf]
        · go_wp2
          go_round
          case rel => exact ⟨9, _, by omega, rfl, congrArg Value.string (cat1 _ _), by rw [List.length_append, Hl.out, modeP_len]; simp, mode_snoc (j := 9 - 1) Hl.out ((mch_yes (k := 0) (v := 1) (by decide) (by rw [Int.ediv_one]; exact hb)).trans rfl)⟩
          case measure => simp [intOf]
      · by_cases h5 : 512 ≤ m
        · go_wp2
          go_ret
          exact ⟨by rw [← mode_end_yes Hl.out Hm.out h5]; rfl, rfl⟩
        · go_wp2
          go_ret
          exact ⟨by rw [← mode_end_no Hl.out Hm.out (by omega)]; rfl, rfl⟩
theorem info_u8 : (Try.prog.info? 5).map (fun i => (i.zero, i.size, i.bytes)) = some (some (.int .u8 0), 1, 1) := by kernel_rfl
theorem bytesV_snoc (l : List UInt8) (c : UInt8) : bytesV (l ++ [c]) = bytesV l ++ [.int .u8 (c.toNat : Int)] := by simp [bytesV]
theorem own_snoc {w : World} {base : Nat} {e : TypeId} {v : Value} {n : Nat} {l : List UInt8} {c : UInt8} {k : Int} (h : w.ownsRow base e 1 v (n + 1) (bytesV l ++ [.int .u8 k])) (hk : k = (c.toNat : Int)) :
    w.ownsRow base e 1 v (n + 1) (bytesV (l ++ [c])) := by
  rw [bytesV_snoc, ← hk]; exact h
set_option maxHeartbeats 4000000 in
theorem iModeText_any (m : Int) (w : World) : Calls Try.prog 51 #[.int .i64 m] w fun e w' => e = .returned (.string (modeT m)) ∧ Below w.heap.size w w' := by
  obtain ⟨i0, hi, hz0, hz1, hz2⟩ := info_parts info_u8
  cases hm : inR m 0 1023
  · have Hn := Lib.hid (modeT_out hm)
    go_enter Try.func51, Try.ntmps51
    go_wp2_with (go_at_call 54; refine (isMode_any _ _).mono ?_; rintro e w' ⟨rfl, rfl⟩)
    go_ret
    exact ⟨by rw [Hn.out]; rfl, Below.refl _ _⟩
  · obtain ⟨m0, m1⟩ := inR_iff.1 hm
    have Hm := Lib.hid hm
    go_enter Try.func51, Try.ntmps51
    go_wp2_with (go_at_call 54; refine (isMode_any _ _).mono ?_; rintro e w' ⟨rfl, rfl⟩)
    clear hm
    go_loopw [3, 4] (fun v i wr => ∃ (j n : Nat) (l : List UInt8), j ≤ 9 ∧ i = .int .i64 (8 - (j : Int)) ∧ n ≤ 9 ∧ n = l.length ∧ l = modeP m j ∧ wr.ownsRow w.heap.size 5 1 v n (bytesV l) ∧ v ≠ .slice none 0 0 ∧ Below w.heap.size w wr) (fun _ i _ => (intOf i + 1).toNat)
    case atStart => exact ⟨0, 0, [], by omega, rfl, by omega, rfl, rfl, ⟨rfl, .inr ⟨_, 0, #[], rfl, by simp, heap_alloc_new w _, by simp, by simp [maxLen], rfl, rfl⟩⟩, by simp, (Below.refl _ _).alloc (Nat.le_refl _) _⟩
    case round =>
      obtain ⟨j, n, l, hj, rfl, hl, hn, hlp, hown, hne, hb⟩ := hrel
      have Hl := Lib.hid hlp
      clear hlp
      have Hn := Lib.hid hn
      clear hn
      have hsz := hb.size
      have hcs : j = 0 ∨ j = 1 ∨ j = 2 ∨ j = 3 ∨ j = 4 ∨ j = 5 ∨ j = 6 ∨ j = 7 ∨ j = 8 ∨ j = 9 := by omega
      rcases hcs with rfl | rfl | rfl | rfl | rfl | rfl | rfl | rfl | rfl | rfl
      · have hx := i64_and1 (m / 256) (by omega) (by omega)
        cases hq : (m / 256 % 2 == 1)
        · go_wp2_with (at_builtin; refine wp_push rfl (.tmp 25) (.tmp 26) _ rfl w.heap.size _ i0 _ 1 Try.underlying33 hi hz0 hz1 hz2 rfl _ _ _ rfl hown _ rfl _ rfl hb.size ?_ ?_ ?_; simp only [maxLen]; omega; omega; intro v' w1 hown' hb' hne')
          go_roundw
          case rel => exact ⟨1, n + 1, l ++ [45], by omega, rfl, by (have := Hn.out; rw [Hl.out, modeP_len] at this; omega), by rw [List.length_append, ← Hn.out]; rfl, mode_snoc (j := 1 - 1) Hl.out (mch_no (k := 8) (v := 256) (by decide) hq), own_snoc hown' (by decide), hne', hb.trans hb'⟩
          case measure => simp [intOf]
        · go_wp2_with (at_builtin; refine wp_push rfl (.tmp 19) (.tmp 23) _ rfl w.heap.size _ i0 _ 1 Try.underlying33 hi hz0 hz1 hz2 rfl _ _ _ rfl hown _ rfl _ rfl hb.size ?_ ?_ ?_; simp only [maxLen]; omega; omega; intro v' w1 hown' hb' hne')
          go_roundw
          case rel => exact ⟨1, n + 1, l ++ [114], by omega, rfl, by (have := Hn.out; rw [Hl.out, modeP_len] at this; omega), by rw [List.length_append, ← Hn.out]; rfl, mode_snoc (j := 1 - 1) Hl.out ((mch_yes (k := 8) (v := 256) (by decide) hq).trans rfl), own_snoc hown' (by decide), hne', hb.trans hb'⟩
          case measure => simp [intOf]
      · have hx := i64_and1 (m / 128) (by omega) (by omega)
        cases hq : (m / 128 % 2 == 1)
        · go_wp2_with (at_builtin; refine wp_push rfl (.tmp 25) (.tmp 26) _ rfl w.heap.size _ i0 _ 1 Try.underlying33 hi hz0 hz1 hz2 rfl _ _ _ rfl hown _ rfl _ rfl hb.size ?_ ?_ ?_; simp only [maxLen]; omega; omega; intro v' w1 hown' hb' hne')
          go_roundw
          case rel => exact ⟨2, n + 1, l ++ [45], by omega, rfl, by (have := Hn.out; rw [Hl.out, modeP_len] at this; omega), by rw [List.length_append, ← Hn.out]; rfl, mode_snoc (j := 2 - 1) Hl.out (mch_no (k := 7) (v := 128) (by decide) hq), own_snoc hown' (by decide), hne', hb.trans hb'⟩
          case measure => simp [intOf]
        · go_wp2_with (at_builtin; refine wp_push rfl (.tmp 19) (.tmp 23) _ rfl w.heap.size _ i0 _ 1 Try.underlying33 hi hz0 hz1 hz2 rfl _ _ _ rfl hown _ rfl _ rfl hb.size ?_ ?_ ?_; simp only [maxLen]; omega; omega; intro v' w1 hown' hb' hne')
          go_roundw
          case rel => exact ⟨2, n + 1, l ++ [119], by omega, rfl, by (have := Hn.out; rw [Hl.out, modeP_len] at this; omega), by rw [List.length_append, ← Hn.out]; rfl, mode_snoc (j := 2 - 1) Hl.out ((mch_yes (k := 7) (v := 128) (by decide) hq).trans rfl), own_snoc hown' (by decide), hne', hb.trans hb'⟩
          case measure => simp [intOf]
      · have hx := i64_and1 (m / 64) (by omega) (by omega)
        cases hq : (m / 64 % 2 == 1)
        · go_wp2_with (at_builtin; refine wp_push rfl (.tmp 25) (.tmp 26) _ rfl w.heap.size _ i0 _ 1 Try.underlying33 hi hz0 hz1 hz2 rfl _ _ _ rfl hown _ rfl _ rfl hb.size ?_ ?_ ?_; simp only [maxLen]; omega; omega; intro v' w1 hown' hb' hne')
          go_roundw
          case rel => exact ⟨3, n + 1, l ++ [45], by omega, rfl, by (have := Hn.out; rw [Hl.out, modeP_len] at this; omega), by rw [List.length_append, ← Hn.out]; rfl, mode_snoc (j := 3 - 1) Hl.out (mch_no (k := 6) (v := 64) (by decide) hq), own_snoc hown' (by decide), hne', hb.trans hb'⟩
          case measure => simp [intOf]
        · go_wp2_with (at_builtin; refine wp_push rfl (.tmp 19) (.tmp 23) _ rfl w.heap.size _ i0 _ 1 Try.underlying33 hi hz0 hz1 hz2 rfl _ _ _ rfl hown _ rfl _ rfl hb.size ?_ ?_ ?_; simp only [maxLen]; omega; omega; intro v' w1 hown' hb' hne')
          go_roundw
          case rel => exact ⟨3, n + 1, l ++ [120], by omega, rfl, by (have := Hn.out; rw [Hl.out, modeP_len] at this; omega), by rw [List.length_append, ← Hn.out]; rfl, mode_snoc (j := 3 - 1) Hl.out ((mch_yes (k := 6) (v := 64) (by decide) hq).trans rfl), own_snoc hown' (by decide), hne', hb.trans hb'⟩
          case measure => simp [intOf]
      · have hx := i64_and1 (m / 32) (by omega) (by omega)
        cases hq : (m / 32 % 2 == 1)
        · go_wp2_with (at_builtin; refine wp_push rfl (.tmp 25) (.tmp 26) _ rfl w.heap.size _ i0 _ 1 Try.underlying33 hi hz0 hz1 hz2 rfl _ _ _ rfl hown _ rfl _ rfl hb.size ?_ ?_ ?_; simp only [maxLen]; omega; omega; intro v' w1 hown' hb' hne')
          go_roundw
          case rel => exact ⟨4, n + 1, l ++ [45], by omega, rfl, by (have := Hn.out; rw [Hl.out, modeP_len] at this; omega), by rw [List.length_append, ← Hn.out]; rfl, mode_snoc (j := 4 - 1) Hl.out (mch_no (k := 5) (v := 32) (by decide) hq), own_snoc hown' (by decide), hne', hb.trans hb'⟩
          case measure => simp [intOf]
        · go_wp2_with (at_builtin; refine wp_push rfl (.tmp 19) (.tmp 23) _ rfl w.heap.size _ i0 _ 1 Try.underlying33 hi hz0 hz1 hz2 rfl _ _ _ rfl hown _ rfl _ rfl hb.size ?_ ?_ ?_; simp only [maxLen]; omega; omega; intro v' w1 hown' hb' hne')
          go_roundw
          case rel => exact ⟨4, n + 1, l ++ [114], by omega, rfl, by (have := Hn.out; rw [Hl.out, modeP_len] at this; omega), by rw [List.length_append, ← Hn.out]; rfl, mode_snoc (j := 4 - 1) Hl.out ((mch_yes (k := 5) (v := 32) (by decide) hq).trans rfl), own_snoc hown' (by decide), hne', hb.trans hb'⟩
          case measure => simp [intOf]
      · have hx := i64_and1 (m / 16) (by omega) (by omega)
        cases hq : (m / 16 % 2 == 1)
        · go_wp2_with (at_builtin; refine wp_push rfl (.tmp 25) (.tmp 26) _ rfl w.heap.size _ i0 _ 1 Try.underlying33 hi hz0 hz1 hz2 rfl _ _ _ rfl hown _ rfl _ rfl hb.size ?_ ?_ ?_; simp only [maxLen]; omega; omega; intro v' w1 hown' hb' hne')
          go_roundw
          case rel => exact ⟨5, n + 1, l ++ [45], by omega, rfl, by (have := Hn.out; rw [Hl.out, modeP_len] at this; omega), by rw [List.length_append, ← Hn.out]; rfl, mode_snoc (j := 5 - 1) Hl.out (mch_no (k := 4) (v := 16) (by decide) hq), own_snoc hown' (by decide), hne', hb.trans hb'⟩
          case measure => simp [intOf]
        · go_wp2_with (at_builtin; refine wp_push rfl (.tmp 19) (.tmp 23) _ rfl w.heap.size _ i0 _ 1 Try.underlying33 hi hz0 hz1 hz2 rfl _ _ _ rfl hown _ rfl _ rfl hb.size ?_ ?_ ?_; simp only [maxLen]; omega; omega; intro v' w1 hown' hb' hne')
          go_roundw
          case rel => exact ⟨5, n + 1, l ++ [119], by omega, rfl, by (have := Hn.out; rw [Hl.out, modeP_len] at this; omega), by rw [List.length_append, ← Hn.out]; rfl, mode_snoc (j := 5 - 1) Hl.out ((mch_yes (k := 4) (v := 16) (by decide) hq).trans rfl), own_snoc hown' (by decide), hne', hb.trans hb'⟩
          case measure => simp [intOf]
      · have hx := i64_and1 (m / 8) (by omega) (by omega)
        cases hq : (m / 8 % 2 == 1)
        · go_wp2_with (at_builtin; refine wp_push rfl (.tmp 25) (.tmp 26) _ rfl w.heap.size _ i0 _ 1 Try.underlying33 hi hz0 hz1 hz2 rfl _ _ _ rfl hown _ rfl _ rfl hb.size ?_ ?_ ?_; simp only [maxLen]; omega; omega; intro v' w1 hown' hb' hne')
          go_roundw
          case rel => exact ⟨6, n + 1, l ++ [45], by omega, rfl, by (have := Hn.out; rw [Hl.out, modeP_len] at this; omega), by rw [List.length_append, ← Hn.out]; rfl, mode_snoc (j := 6 - 1) Hl.out (mch_no (k := 3) (v := 8) (by decide) hq), own_snoc hown' (by decide), hne', hb.trans hb'⟩
          case measure => simp [intOf]
        · go_wp2_with (at_builtin; refine wp_push rfl (.tmp 19) (.tmp 23) _ rfl w.heap.size _ i0 _ 1 Try.underlying33 hi hz0 hz1 hz2 rfl _ _ _ rfl hown _ rfl _ rfl hb.size ?_ ?_ ?_; simp only [maxLen]; omega; omega; intro v' w1 hown' hb' hne')
          go_roundw
          case rel => exact ⟨6, n + 1, l ++ [120], by omega, rfl, by (have := Hn.out; rw [Hl.out, modeP_len] at this; omega), by rw [List.length_append, ← Hn.out]; rfl, mode_snoc (j := 6 - 1) Hl.out ((mch_yes (k := 3) (v := 8) (by decide) hq).trans rfl), own_snoc hown' (by decide), hne', hb.trans hb'⟩
          case measure => simp [intOf]
      · have hx := i64_and1 (m / 4) (by omega) (by omega)
        cases hq : (m / 4 % 2 == 1)
        · go_wp2_with (at_builtin; refine wp_push rfl (.tmp 25) (.tmp 26) _ rfl w.heap.size _ i0 _ 1 Try.underlying33 hi hz0 hz1 hz2 rfl _ _ _ rfl hown _ rfl _ rfl hb.size ?_ ?_ ?_; simp only [maxLen]; omega; omega; intro v' w1 hown' hb' hne')
          go_roundw
          case rel => exact ⟨7, n + 1, l ++ [45], by omega, rfl, by (have := Hn.out; rw [Hl.out, modeP_len] at this; omega), by rw [List.length_append, ← Hn.out]; rfl, mode_snoc (j := 7 - 1) Hl.out (mch_no (k := 2) (v := 4) (by decide) hq), own_snoc hown' (by decide), hne', hb.trans hb'⟩
          case measure => simp [intOf]
        · go_wp2_with (at_builtin; refine wp_push rfl (.tmp 19) (.tmp 23) _ rfl w.heap.size _ i0 _ 1 Try.underlying33 hi hz0 hz1 hz2 rfl _ _ _ rfl hown _ rfl _ rfl hb.size ?_ ?_ ?_; simp only [maxLen]; omega; omega; intro v' w1 hown' hb' hne')
          go_roundw
          case rel => exact ⟨7, n + 1, l ++ [114], by omega, rfl, by (have := Hn.out; rw [Hl.out, modeP_len] at this; omega), by rw [List.length_append, ← Hn.out]; rfl, mode_snoc (j := 7 - 1) Hl.out ((mch_yes (k := 2) (v := 4) (by decide) hq).trans rfl), own_snoc hown' (by decide), hne', hb.trans hb'⟩
          case measure => simp [intOf]
      · have hx := i64_and1 (m / 2) (by omega) (by omega)
        cases hq : (m / 2 % 2 == 1)
        · go_wp2_with (at_builtin; refine wp_push rfl (.tmp 25) (.tmp 26) _ rfl w.heap.size _ i0 _ 1 Try.underlying33 hi hz0 hz1 hz2 rfl _ _ _ rfl hown _ rfl _ rfl hb.size ?_ ?_ ?_; simp only [maxLen]; omega; omega; intro v' w1 hown' hb' hne')
          go_roundw
          case rel => exact ⟨8, n + 1, l ++ [45], by omega, rfl, by (have := Hn.out; rw [Hl.out, modeP_len] at this; omega), by rw [List.length_append, ← Hn.out]; rfl, mode_snoc (j := 8 - 1) Hl.out (mch_no (k := 1) (v := 2) (by decide) hq), own_snoc hown' (by decide), hne', hb.trans hb'⟩
          case measure => simp [intOf]
        · go_wp2_with (at_builtin; refine wp_push rfl (.tmp 19) (.tmp 23) _ rfl w.heap.size _ i0 _ 1 Try.underlying33 hi hz0 hz1 hz2 rfl _ _ _ rfl hown _ rfl _ rfl hb.size ?_ ?_ ?_; simp only [maxLen]; omega; omega; intro v' w1 hown' hb' hne')
          go_roundw
          case rel => exact ⟨8, n + 1, l ++ [119], by omega, rfl, by (have := Hn.out; rw [Hl.out, modeP_len] at this; omega), by rw [List.length_append, ← Hn.out]; rfl, mode_snoc (j := 8 - 1) Hl.out ((mch_yes (k := 1) (v := 2) (by decide) hq).trans rfl), own_snoc hown' (by decide), hne', hb.trans hb'⟩
          case measure => simp [intOf]
      · have hx := i64_and1 (m) (by omega) (by omega)
        cases hq : (m % 2 == 1)
        · go_wp2_with (at_builtin; refine wp_push rfl (.tmp 25) (.tmp 26) _ rfl w.heap.size _ i0 _ 1 Try.underlying33 hi hz0 hz1 hz2 rfl _ _ _ rfl hown _ rfl _ rfl hb.size ?_ ?_ ?_; simp only [maxLen]; omega; omega; intro v' w1 hown' hb' hne')
          go_roundw
          case rel => exact ⟨9, n + 1, l ++ [45], by omega, rfl, by (have := Hn.out; rw [Hl.out, modeP_len] at this; omega), by rw [List.length_append, ← Hn.out]; rfl, mode_snoc (j := 9 - 1) Hl.out (mch_no (k := 0) (v := 1) (by decide) (by rw [Int.ediv_one]; exact hq)), own_snoc hown' (by decide), hne', hb.trans hb'⟩
          case measure => simp [intOf]
        · go_wp2_with (at_builtin; refine wp_push rfl (.tmp 19) (.tmp 23) _ rfl w.heap.size _ i0 _ 1 Try.underlying33 hi hz0 hz1 hz2 rfl _ _ _ rfl hown _ rfl _ rfl hb.size ?_ ?_ ?_; simp only [maxLen]; omega; omega; intro v' w1 hown' hb' hne')
          go_roundw
          case rel => exact ⟨9, n + 1, l ++ [120], by omega, rfl, by (have := Hn.out; rw [Hl.out, modeP_len] at this; omega), by rw [List.length_append, ← Hn.out]; rfl, mode_snoc (j := 9 - 1) Hl.out ((mch_yes (k := 0) (v := 1) (by decide) (by rw [Int.ediv_one]; exact hq)).trans rfl), own_snoc hown' (by decide), hne', hb.trans hb'⟩
          case measure => simp [intOf]
      · by_cases h5 : 512 ≤ m
        · have hx := (i64_and512 m m0 m1).trans (if_pos h5)
          go_wp2_with (at_builtin; refine wp_push rfl (.tmp 31) (.tmp 32) _ rfl w.heap.size _ i0 _ 1 Try.underlying33 hi hz0 hz1 hz2 rfl _ _ _ rfl hown _ rfl _ rfl hb.size ?_ ?_ ?_; simp only [maxLen]; omega; omega; intro v' w1 hown' hb' hne'; have Hcv := Lib.hid (conv_own (P := Try.prog) (n := n + 1) (l := l ++ [43]) (by rw [List.length_append, ← Hn.out]; rfl) Try.underlying33 Try.underlying5 Try.underlying9 (own_snoc hown' (by decide)) hne'); have hcv := Hcv.out)
          go_ret
          exact ⟨by rw [← mode_end_yes Hl.out Hm.out h5, cat1]; rfl, hb.trans hb'⟩
        · have hx := (i64_and512 m m0 m1).trans (if_neg h5)
          have hcv := conv_own (P := Try.prog) (n := n) (l := l) Hn.out Try.underlying33 Try.underlying5 Try.underlying9 hown hne
          go_wp2
          go_ret
          exact ⟨by rw [← mode_end_no Hl.out Hm.out (by omega)]; rfl, hb⟩
end Go.Proofs.Ytifnjinkddelmaa
