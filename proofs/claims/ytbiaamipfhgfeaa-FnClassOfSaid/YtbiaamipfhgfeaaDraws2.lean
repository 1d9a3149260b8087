/-
  The draws of credentials, and of texts of modes.
  Conditions: none.
-/
import Derived.Test.YtbiaamipfhgfeaaDraws
import Derived.Deep.RegionHeld3
namespace Go.Proofs.Ytbiaamipfhgfeaa
open Go.ChangeShapes Go.WideShapes Go.ChangeAt Go.RowKit
set_option maxHeartbeats 2000000

theorem Cb.below {w w' : World} {cb : Nat} {r a s gr : Int} (h : Cb w cb r a s gr) (hb : Below w.heap.size w w') : Cb w' cb r a s gr := (hb.block cb h.lt).trans h
theorem Cb.drew {w : World} {cb : Nat} {r a s gr : Int} (h : Cb w cb r a s gr) : Cb w.drew cb r a s gr := h

theorem Cb.cells4 {w : World} {cb : Nat} {r a s gr : Int} (h : Cb w cb r a s gr) :
    w.cell? ⟨cb, 0, none⟩ = some (.int .i64 r) ∧ w.cell? ⟨cb, 1, none⟩ = some (.int .i64 a) ∧ w.cell? ⟨cb, 2, none⟩ = some (.int .i64 s) ∧ w.cell? ⟨cb, 3, none⟩ = some (.int .i64 gr) := h.facts.1
theorem pick7 {j : Nat} (hj : j < 7) : ∃ i : Nat, i < 3 ∧ (#[Value.int .i64 0, Value.int .i64 0, Value.int .i64 0, Value.int .i64 0, Value.int .i64 0, Value.int .i64 1, Value.int .i64 2] : Array Value)[j]? = some (.int .i64 (i : Int)) := by
  have h : j = 0 ∨ j = 1 ∨ j = 2 ∨ j = 3 ∨ j = 4 ∨ j = 5 ∨ j = 6 := by omega
  rcases h with rfl | rfl | rfl | rfl | rfl | rfl | rfl
  all_goals first | exact ⟨0, by omega, rfl⟩ | exact ⟨1, by omega, rfl⟩ | exact ⟨2, by omega, rfl⟩
theorem pick3 {i : Nat} (hi : i < 3) (u : Int) (u0 : 0 ≤ u) (u1 : u ≤ 7) : ∃ t : Int, (-1 ≤ t ∧ t ≤ 100) ∧ (#[Value.int .i64 u, Value.int .i64 100, Value.int .i64 (-1)] : Array Value)[i]? = some (.int .i64 t) := by
  have h : i = 0 ∨ i = 1 ∨ i = 2 := by omega
  rcases h with rfl | rfl | rfl
  · exact ⟨u, by omega, rfl⟩
  · exact ⟨100, by omega, rfl⟩
  · exact ⟨-1, by omega, rfl⟩
theorem dCredValid_any (v : Value) (w : World) (h : CodeAt w v) : Calls Try.prog 31 #[v] w fun e w' => ∃ c : Cr, e = .returned c.v ∧ c.small ∧ Below w.heap.size w w' := by
  have hA : CodeAt (w.alloc (.cells #[.int .i64 0, .int .i64 0, .int .i64 0, .int .i64 0] 34)) v := h.alloc _
  have HZ0 := Lib.hid (Cb.new w 0 0 0 0)
  go_enter Try.func31, Try.ntmps31
  go_wp2_with fail
  refine (open_any v _ hA).mono ?_
  rintro e w0 ⟨g, rfl, hg0, hR0, hb0⟩
  have hg0' : w.heap.size < g := Nat.lt_of_lt_of_le (by simp) hg0
  have HZ1 := Lib.hid (HZ0.out.below hb0)
  have hs0 := hb0.size
  go_wp2_with fail
  refine (cred_any g 0 2 _ hR0 (by omega) (by omega) (by omega)).mono ?_
  rintro e w1 ⟨c, p1, rfl, hsm, _, hR1, hg1⟩
  have HZ2 := Lib.hid (HZ1.out.grown hg1 (by omega))
  obtain ⟨⟨l0, l1, l2, l3⟩, lf⟩ := HZ2.out.facts
  have hbl : Below w.heap.size w w1 := ((Below.refl _ _).alloc (Nat.le_refl _) _).trans ((hb0.mono (by simp)).trans (grown_below hg1 (by simp at hs0; omega) (by omega)))
  have Hbl := Lib.hid hbl
  clear hbl hb0 hg1 hR0 hR1 hA h
  go_wp2
  refine bodyPost_ret (v := c.v) (by simp [results, Try.results31, go_sem, l0, l1, l2, l3]) rfl ⟨c, rfl, hsm, ?_⟩
  exact (((Hbl.out.setCell (Nat.le_refl _) _).setCell (Nat.le_refl _) _).setCell (Nat.le_refl _) _).setCell (Nat.le_refl _) _
theorem dClassOf_any (v : Value) (w : World) (h : CodeAt w v) : Calls Try.prog 47 #[v] w fun e w' => ∃ (c : Cr) (x y : Int), e = .returned (.tuple #[c.v, .int .i64 x, .int .i64 y]) ∧ c.small ∧ (0 ≤ x ∧ x ≤ 7) ∧ (-1 ≤ y ∧ y ≤ 8) ∧ Below w.heap.size w w' := by
  have hA : CodeAt (w.alloc (.cells #[.int .i64 0, .int .i64 0, .int .i64 0, .int .i64 0] 34)) v := h.alloc _
  have HZ0 := Lib.hid (Cb.new w 0 0 0 0)
  go_enter Try.func47, Try.ntmps47
  go_wp2_with fail
  refine (open_any v _ hA).mono ?_
  rintro e w0 ⟨g, rfl, hg0, hR0, hb0⟩
  have hg0' : w.heap.size < g := Nat.lt_of_lt_of_le (by simp) hg0
  have HZ1 := Lib.hid (HZ0.out.below hb0)
  have hs0 := hb0.size
  go_wp2_with fail
  refine (cred_any g 0 9 _ hR0 (by omega) (by omega) (by omega)).mono ?_
  rintro e w1 ⟨c, p1, rfl, hsm, hp1, hR1, hg1⟩
  have HZ2 := Lib.hid ((HZ1.out.grown hg1 (by omega)).alloc c.o)
  have HC2 := Lib.hid (Cb.new w1 c.real c.acts c.saved c.groups)
  have hbl : Below w.heap.size w w1 := ((Below.refl _ _).alloc (Nat.le_refl _) _).trans ((hb0.mono (by simp)).trans (grown_below hg1 (by simp at hs0; omega) (by omega)))
  have Hbl := Lib.hid hbl
  have HR1 := Lib.hid hR1
  have hgw : g < w1.heap.size := hR1.lt
  have hws1 : w.heap.size < w1.heap.size := (HZ1.out.grown hg1 (by omega)).lt
  clear hbl hb0 hg1 hR0 hR1 hA h
  go_wp2_with fail
  refine (user_any g p1 _ (HR1.out.alloc _) (by omega)).mono ?_
  rintro e w2 ⟨u, p2, rfl, u0, u1, hp2, hR2, hg2⟩
  have hZ2 : Cb w2 w.heap.size 0 0 0 0 := HZ2.out.grown hg2 (by omega)
  have hC2 : Cb w2 w1.heap.size c.real c.acts c.saved c.groups := HC2.out.grown hg2 (by omega)
  have Hg2 := Lib.hid (grown_below (B := w.heap.size) hg2 (by simp; omega) (by omega))
  have HR2 := Lib.hid hR2
  have hneA : w1.heap.size ≠ g := by omega
  have hneZ : w.heap.size ≠ g := by omega
  clear hg2 hR2 hs0
  obtain ⟨⟨l0, l1, l2, l3⟩, lf⟩ := hZ2.facts
  go_wp2_with fail
  obtain ⟨⟨k0, k1, k2, k3⟩, kf⟩ := hC2.facts
  go_region_with
    (first
    | (go_at_call 64; refine (group_any g p2 _ (by repeat (first | exact HR2.out | refine Rd.drew ?_ | refine Rd.alloc ?_ _)) (by omega)).mono ?_; rintro e w3 ⟨y, p3, rfl, y0, y1, hp3, hR3, hg3⟩; have hC3 : Cb w3 w1.heap.size c.real c.acts c.saved c.groups := Cb.grown (by repeat (first | assumption | refine Cb.drew ?_)) hg3 hneA; have hZ3 : Cb w3 w.heap.size 0 0 0 0 := Cb.grown (by repeat (first | assumption | refine Cb.drew ?_)) hg3 hneZ; obtain ⟨⟨n0, n1, n2, n3⟩, nf⟩ := hZ3.facts; obtain ⟨⟨q0, q1, q2, q3⟩, qf⟩ := hC3.facts; have Hg3 := Lib.hid (grown_below (B := w.heap.size) hg3 (by show w.heap.size ≤ w2.heap.size; exact Hg2.out.size |> fun h => by simp at h; omega) (by omega))))
  all_goals
    go_wp2
    refine bodyPost_ret (v := .tuple #[c.v, .int .i64 u, .int .i64 y]) (by simp [results, Try.results47, go_sem, n0, n1, n2, n3]) rfl ⟨c, u, y, rfl, hsm, by omega, by omega, ?_⟩
    have hX : Below w.heap.size w w3 := Hbl.out.trans ((((Below.refl _ _).alloc (by omega) _).trans Hg2.out).trans ((Below.refl _ _).drew.trans Hg3.out))
    exact (((hX.setCell (Nat.le_refl _) _).setCell (Nat.le_refl _) _).setCell (Nat.le_refl _) _).setCell (Nat.le_refl _) _
end Go.Proofs.Ytbiaamipfhgfeaa
