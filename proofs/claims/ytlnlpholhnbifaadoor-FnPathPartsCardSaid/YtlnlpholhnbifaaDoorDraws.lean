/-
  What the draws return: numbers, texts and credentials within bounds.
  Conditions: the reader has been asked fewer than 99,000 times.
-/
import Derived.Test.YtlnlpholhnbifaaDoorDraw
import Derived.Test.YtlnlpholhnbifaaDoorMode
import Derived.Deep.RegionWith
namespace Go.Proofs.YtlnlpholhnbifaaDoor
open Go.ChangeShapes Go.WideShapes Go.ChangeAt Go.RowKit
set_option maxHeartbeats 2000000

theorem grown_set_new {a b : World} {g : Nat} (h : a.grownBy b (some g)) {k o : Nat} (hk : a.heap.size ≤ k) (u : Value) : a.grownBy (b.setCell ⟨k, o, none⟩ u) (some g) :=
  ⟨h.os, h.tape, h.output, by have := h.size; simp [World.setCell]; omega, fun i hi hne => (Below.heap_setCell b _ u i (by show i ≠ k; omega)).trans (h.block i hi hne)⟩
theorem grown_drew {a b : World} {g : Nat} (h : a.grownBy b (some g)) : a.grownBy b.drew (some g) := ⟨h.os, h.tape, h.output, h.size, h.block⟩
theorem drew_grown {a b : World} {g : Nat} (h : a.drew.grownBy b (some g)) : a.grownBy b (some g) := ⟨h.os, h.tape, h.output, h.size, h.block⟩
theorem alloc_grown {a b : World} {o : Obj} {g : Nat} (h : (a.alloc o).grownBy b (some g)) : a.grownBy b (some g) :=
  grown_trans (grown_alloc (grown_self a g) o) h
/-- A text of at most c bytes. -/
def PkS (c m : Nat) (g p : Nat) (w : World) (e : Ending) (w' : World) : Prop :=
  ∃ (s : ByteArray) (p' : Nat), e = .returned (.string s) ∧ s.size ≤ m ∧ p' ≤ p + c ∧ Rd w' g p' ∧ w.grownBy w' (some g)
/-- A credential, its numbers bounded. -/
def Cr.small (c : Cr) : Prop := (-1 ≤ c.real ∧ c.real ≤ 256) ∧ (-1 ≤ c.acts ∧ c.acts ≤ 256) ∧ (-1 ≤ c.saved ∧ c.saved ≤ 256) ∧ (-1 ≤ c.groups ∧ c.groups ≤ 256)
def PkC (k : Nat) (g p : Nat) (w : World) (e : Ending) (w' : World) : Prop :=
  ∃ (c : Cr) (p' : Nat), e = .returned c.v ∧ c.small ∧ p' ≤ p + k ∧ Rd w' g p' ∧ w.grownBy w' (some g)

theorem name_any (g p : Nat) (n : Int) (w : World) (h : Rd w g p) (hp : p < 99990) (n0 : 0 ≤ n) (n1 : n < 1000000) :
    Calls Tryd.prog 35 #[.pointer (some ⟨g, 0, none⟩), .int .i64 n] w (PkS 2 9 g p w) := by
  go_enter Tryd.func35, Tryd.ntmps35
  go_wp2_with fail
  refine (odd_any g p n _ h (by omega) n0 n1).mono ?_
  rintro e w0 ⟨b, p0, rfl, hp0, hR, hg⟩
  have HR0 := Lib.hid hR
  have Hg0 := Lib.hid hg
  have hne : w0.heap.size ≠ g := by have := hR.lt; omega
  clear h hR hg
  cases b
  · go_wp2_with fail
    refine (pick_any g p0 4 _ (HR0.out.alloc _) (by omega) (by omega)).mono ?_
    rintro e w3 ⟨x, rfl, x0, x1, x2, hR, hg⟩
    obtain ⟨hc, hf⟩ := gcell hg
    have hx : x = 0 ∨ x = 1 ∨ x = 2 ∨ x = 3 := by have := x1 (by omega); omega
    clear x1 x2
    have Hg := Lib.hid (grown_trans (grown_alloc Hg0.out _) hg)
    have HR := Lib.hid hR
    clear hg hR
    rcases hx with rfl | rfl | rfl | rfl
    all_goals
      go_wp2
      go_ret
      exact ⟨_, _, rfl, by decide, by omega, HR.out, Hg.out⟩
  · go_wp2_with fail
    refine (pick_any g p0 6 _ (HR0.out.alloc _) (by omega) (by omega)).mono ?_
    rintro e w3 ⟨x, rfl, x0, x1, x2, hR, hg⟩
    obtain ⟨hc, hf⟩ := gcell hg
    have hx : x = 0 ∨ x = 1 ∨ x = 2 ∨ x = 3 ∨ x = 4 ∨ x = 5 := by have := x1 (by omega); omega
    clear x1 x2
    have Hg := Lib.hid (grown_trans (grown_alloc Hg0.out _) hg)
    have HR := Lib.hid hR
    clear hg hR
    rcases hx with rfl | rfl | rfl | rfl | rfl | rfl
    all_goals
      go_wp2
      go_ret
      exact ⟨_, _, rfl, by decide, by omega, HR.out, Hg.out⟩
end Go.Proofs.YtlnlpholhnbifaaDoor
