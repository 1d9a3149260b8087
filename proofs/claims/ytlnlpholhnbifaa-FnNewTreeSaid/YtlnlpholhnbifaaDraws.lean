/-
  What the draws return: numbers, texts and credentials within bounds.
  Conditions: the reader has been asked fewer than 99,000 times.
-/
import Derived.Test.YtlnlpholhnbifaaDraw
import Derived.Test.YtlnlpholhnbifaaMode
import Derived.Deep.RegionWith
namespace Go.Proofs.Ytlnlpholhnbifaa
open Go.ChangeShapes Go.WideShapes Go.ChangeAt Go.RowKit
set_option maxHeartbeats 2000000

theorem grown_set_new {a b : World} {g : Nat} (h : a.grownBy b (some g)) {k o : Nat} (hk : a.heap.size ≤ k) (u : Value) : a.grownBy (b.setCell ⟨k, o, none⟩ u) (some g) :=
  ⟨h.os, h.tape, h.output, by have := h.size; simp [World.setCell]; omega, fun i hi hne => (Below.heap_setCell b _ u i (by show i ≠ k; omega)).trans (h.block i hi hne)⟩
theorem grown_drew {a b : World} {g : Nat} (h : a.grownBy b (some g)) : a.grownBy b.drew (some g) := ⟨h.os, h.tape, h.output, h.size, h.block⟩
theorem drew_grown {a b : World} {g : Nat} (h : a.drew.grownBy b (some g)) : a.grownBy b (some g) := ⟨h.os, h.tape, h.output, h.size, h.block⟩
theorem alloc_grown {a b : World} {o : Obj} {g : Nat} (h : (a.alloc o).grownBy b (some g)) : a.grownBy b (some g) :=
  grown_trans (grown_alloc (grown_self a g) o) h
/-- A text of at most c bytes. -/
def PkS (c m : Nat) (g p : Nat) (w : World) (e : Ending) (w' : World) : Prop :=
  ∃ (s : ByteArray) (p' : Nat), e = .returned (.string s) ∧ s.size ≤ m ∧ p' ≤ p + c ∧ Rd w' g p' ∧ w.grownBy w' (some g)
/-- A credential, its numbers bounded. -/
def Cr.small (c : Cr) : Prop := (-1 ≤ c.real ∧ c.real ≤ 256) ∧ (-1 ≤ c.acts ∧ c.acts ≤ 256) ∧ (-1 ≤ c.saved ∧ c.saved ≤ 256) ∧ (-1 ≤ c.groups ∧ c.groups ≤ 256)
def PkC (k : Nat) (g p : Nat) (w : World) (e : Ending) (w' : World) : Prop :=
  ∃ (c : Cr) (p' : Nat), e = .returned c.v ∧ c.small ∧ p' ≤ p + k ∧ Rd w' g p' ∧ w.grownBy w' (some g)

theorem mode_any (g p : Nat) (n : Int) (w : World) (h : Rd w g p) (hp : p < 99990) (n0 : 0 ≤ n) (n1 : n < 1000000) :
    Calls Try.prog 48 #[.pointer (some ⟨g, 0, none⟩), .int .i64 n] w (Pk 4 (-1) 1024 g p w) := by
  go_enter Try.func48, Try.ntmps48
  go_wp2_with fail
  refine (odd_any g p n _ h (by omega) n0 n1).mono ?_
  rintro e w0 ⟨b, p0, rfl, hp0, hR, hg⟩
  have HR0 := Lib.hid hR
  have Hg0 := Lib.hid hg
  have hne : w0.heap.size ≠ g := by have := hR.lt; omega
  clear h hR hg
  cases b
  · go_wp2_with fail
    refine (pick_any g p0 256 _ HR0.out (by omega) (by omega)).mono ?_
    rintro e w1 ⟨y, rfl, y0, y1, y2, hR, hg⟩
    have hy : y ≤ 255 := by have := y1 (by omega); omega
    clear y1 y2
    have Hg1 := Lib.hid (grown_trans Hg0.out hg)
    have HR1 := Lib.hid hR
    clear hR hg
    go_wp2_with fail
    refine (pick_any g (p0 + 1) 256 _ HR1.out (by omega) (by omega)).mono ?_
    rintro e w2 ⟨z, rfl, z0, z1, z2, hR, hg⟩
    have hz : z ≤ 255 := by have := z1 (by omega); omega
    clear z1 z2
    have Hg2 := Lib.hid (grown_trans Hg1.out hg)
    have HR2 := Lib.hid hR
    have hne2 : w2.heap.size ≠ g := by have := hR.lt; omega
    clear hR hg
    go_wp2_with fail
    refine (pick_any g (p0 + 1 + 1) 7 _ (HR2.out.alloc _) (by omega) (by omega)).mono ?_
    rintro e w3 ⟨x, rfl, x0, x1, x2, hR, hg⟩
    obtain ⟨hc, hf⟩ := gcell hg
    have hx : x = 0 ∨ x = 1 ∨ x = 2 ∨ x = 3 ∨ x = 4 ∨ x = 5 ∨ x = 6 := by have := x1 (by omega); omega
    clear x1 x2
    have Hg := Lib.hid (grown_trans (grown_alloc Hg2.out _) hg)
    have HR := Lib.hid hR
    clear hg hR
    rcases hx with rfl | rfl | rfl | rfl | rfl | rfl | rfl
    all_goals
      go_wp2
      go_ret
      exact ⟨_, _, rfl, by omega, by omega, by omega, HR.out, Hg.out⟩
  · go_wp2_with fail
    refine (pick_any g p0 2 _ (HR0.out.alloc _) (by omega) (by omega)).mono ?_
    rintro e w3 ⟨x, rfl, x0, x1, x2, hR, hg⟩
    obtain ⟨hc, hf⟩ := gcell hg
    have hx : x = 0 ∨ x = 1 := by have := x1 (by omega); omega
    clear x1 x2
    have Hg := Lib.hid (grown_trans (grown_alloc Hg0.out _) hg)
    have HR := Lib.hid hR
    clear hg hR
    rcases hx with rfl | rfl
    all_goals
      go_wp2
      go_ret
      exact ⟨_, _, rfl, by omega, by omega, by omega, HR.out, Hg.out⟩
theorem dNewTree_any (v : Value) (w : World) (h : CodeAt w v) : Calls Try.prog 23 #[v] w fun e w' => ∃ x : Int, e = .returned (.int .i64 x) ∧ -1 ≤ x ∧ x ≤ 1024 ∧ Below w.heap.size w w' := by
  go_enter Try.func23, Try.ntmps23
  go_wp2_with fail
  refine (open_any v w h).mono ?_
  rintro e w0 ⟨g, rfl, hg0, hR0, hb0⟩
  go_wp2_with fail
  refine (mode_any g 0 3 _ hR0 (by omega) (by omega) (by omega)).mono ?_
  rintro e w1 ⟨x, p', rfl, x0, x1, _, hR, hg⟩
  go_wp2
  go_ret
  exact ⟨_, rfl, by omega, by omega, hb0.trans (grown_below hg hb0.size hg0)⟩
end Go.Proofs.Ytlnlpholhnbifaa
