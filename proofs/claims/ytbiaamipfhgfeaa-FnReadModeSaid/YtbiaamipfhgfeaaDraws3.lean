/-
  The draw of a text of a mode.
  Conditions: none.
-/
import Derived.Test.YtbiaamipfhgfeaaDraws
import Derived.Test.YtbiaamipfhgfeaaReadP
namespace Go.Proofs.Ytbiaamipfhgfeaa
open Go.ChangeShapes Go.WideShapes Go.ChangeAt Go.RowKit
set_option maxHeartbeats 2000000

theorem dReadMode_any (v : Value) (w : World) (h : CodeAt w v) : Calls Try.prog 50 #[v] w fun e w' => ∃ s : ByteArray, e = .returned (.string s) ∧ s.size ≤ 11 ∧ Below w.heap.size w w' := by
  go_enter Try.func50, Try.ntmps50
  go_wp2_with fail
  refine (open_any v w h).mono ?_
  rintro e w0 ⟨g, rfl, hg0, hR0, hb0⟩
  go_wp2_with fail
  refine (mode_any g 0 0 _ hR0 (by omega) (by omega) (by omega)).mono ?_
  rintro e w1 ⟨m, p1, rfl, m0, m1, hp1, hR1, hg1⟩
  have hsz := modeT_size m
  go_wp2_with fail
  refine (sModeText_any _ _).mono ?_; rintro e w' ⟨rfl, rfl⟩
  have Hs := Lib.hid (show (modeT m).size ≤ 10 from hsz)
  have hsz1 : (modeT m ++ (⟨#[43]⟩ : ByteArray)).size ≤ 11 := by rw [ByteArray.size_append]; show _ + 1 ≤ 11; omega
  have hsz2 : (modeT m ++ (⟨#[45]⟩ : ByteArray)).size ≤ 11 := by rw [ByteArray.size_append]; show _ + 1 ≤ 11; omega
  have Hs1 := Lib.hid hsz1
  have Hs2 := Lib.hid hsz2
  clear hsz1 hsz2
  generalize modeT m = t at *
  go_wp2_with fail
  refine (odd_any g p1 3 _ hR1 (by omega) (by omega) (by omega)).mono ?_
  rintro e w2 ⟨b, p2, rfl, hp2, hR2, hg2⟩
  have hne : w2.heap.size ≠ g := by have := hR2.lt; omega
  have Hg2 := Lib.hid (grown_trans hg1 hg2)
  have HR2 := Lib.hid hR2
  clear hg1 hg2 hR1 hR2 hR0
  cases b
  · go_wp2
    go_ret
    exact ⟨_, rfl, by have := Hs.out; omega, hb0.trans (grown_below Hg2.out hb0.size hg0)⟩
  · go_wp2_with fail
    refine (pick_any g p2 7 _ (HR2.out.alloc _) (by omega) (by omega)).mono ?_
    rintro e w3 ⟨x, rfl, x0, x1, x2, hR, hg⟩
    obtain ⟨hc, hf⟩ := gcell hg
    have hx : x = 0 ∨ x = 1 ∨ x = 2 ∨ x = 3 ∨ x = 4 ∨ x = 5 ∨ x = 6 := by have := x1 (by omega); omega
    clear x1 x2
    have Hg := Lib.hid (grown_trans (grown_alloc Hg2.out _) hg)
    clear hg hR
    rcases hx with rfl | rfl | rfl | rfl | rfl | rfl | rfl
    all_goals
      go_wp2
      go_ret
      exact ⟨_, rfl, by first | decide | exact Hs1.out | exact Hs2.out, hb0.trans (grown_below Hg.out hb0.size hg0)⟩
end Go.Proofs.Ytbiaamipfhgfeaa
