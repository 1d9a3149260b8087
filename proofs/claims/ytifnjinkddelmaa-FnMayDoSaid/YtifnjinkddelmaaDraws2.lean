/-
  The draws of credentials, and of texts of modes.
  Conditions: none.
-/
import Derived.Test.YtifnjinkddelmaaDraws
import Derived.Deep.RegionHeld3
namespace Go.Proofs.Ytifnjinkddelmaa
open Go.ChangeShapes Go.WideShapes Go.ChangeAt Go.RowKit
set_option maxHeartbeats 2000000

theorem Cb.below {w w' : World} {cb : Nat} {r a s gr : Int} (h : Cb w cb r a s gr) (hb : Below w.heap.size w w') : Cb w' cb r a s gr := (hb.block cb h.lt).trans h
theorem Cb.drew {w : World} {cb : Nat} {r a s gr : Int} (h : Cb w cb r a s gr) : Cb w.drew cb r a s gr := h

theorem Cb.cells4 {w : World} {cb : Nat} {r a s gr : Int} (h : Cb w cb r a s gr) :
    w.cell? ⟨cb, 0, none⟩ = some (.int .i64 r) ∧ w.cell? ⟨cb, 1, none⟩ = some (.int .i64 a) ∧ w.cell? ⟨cb, 2, none⟩ = some (.int .i64 s) ∧ w.cell? ⟨cb, 3, none⟩ = some (.int .i64 gr) := h.facts.1
theorem pick7 {j : Nat} (hj : j < 7) : ∃ i : Nat, i < 3 ∧ (#[Value.int .i64 0, Value.int .i64 0, Value.int .i64 0, Value.int .i64 0, Value.int .i64 0, Value.int .i64 1, Value.int .i64 2] : Array Value)[j]? = some (.int .i64 (i : Int)) := by
  have h : j = 0 ∨ j = 1 ∨ j = 2 ∨ j = 3 ∨ j = 4 ∨ j = 5 ∨ j = 6 := by omega
  rcases h with rfl | rfl | rfl | rfl | rfl | rfl | rfl
  all_goals first | exact ⟨0, by omega, rfl⟩ | exact ⟨1, by omega, rfl⟩ | exact ⟨2, by omega, rfl⟩
theorem pick3 {i : Nat} (hi : i < 3) (u : Int) (u0 : 0 ≤ u) (u1 : u ≤ 7) : ∃ t : Int, (-1 ≤ t ∧ t ≤ 100) ∧ (#[Value.int .i64 u, Value.int .i64 100, Value.int .i64 (-1)] : Array Value)[i]? = some (.int .i64 t) := by
  have h : i = 0 ∨ i = 1 ∨ i = 2 := by omega
  rcases h with rfl | rfl | rfl
  · exact ⟨u, by omega, rfl⟩
  · exact ⟨100, by omega, rfl⟩
  · exact ⟨-1, by omega, rfl⟩
theorem dMayDo_any (v : Value) (w : World) (h : CodeAt w v) : Calls Try.prog 22 #[v] w fun e w' => ∃ (c : Cr) (x y m q : Int), e = .returned (.tuple #[c.v, .int .i64 x, .int .i64 y, .int .i64 m, .int .i64 q]) ∧ c.small ∧ (0 ≤ x ∧ x ≤ 7) ∧ (-1 ≤ y ∧ y ≤ 8) ∧ (-1 ≤ m ∧ m ≤ 1024) ∧ (-1 ≤ q ∧ q ≤ 9) ∧ Below w.heap.size w w' := by
  have hA : CodeAt (w.alloc (.cells #[.int .i64 0, .int .i64 0, .int .i64 0, .int .i64 0] 28)) v := h.alloc _
  have HZ0 := Lib.hid (Cb.new w 0 0 0 0)
  go_enter Try.func22, Try.ntmps22
  go_wp2_with fail
  refine (open_any v _ hA).mono ?_
  rintro e w0 ⟨g, rfl, hg0, hR0, hb0⟩
  have hg0' : w.heap.size < g := Nat.lt_of_lt_of_le (by simp) hg0
  have HZ1 := Lib.hid (HZ0.out.below hb0)
  have hs0 := hb0.size
  go_wp2_with fail
  refine (cred_any g 0 12 _ hR0 (by omega) (by omega) (by omega)).mono ?_
  rintro e w1 ⟨c, p1, rfl, hsm, hp1, hR1, hg1⟩
  have HZ2 := Lib.hid ((HZ1.out.grown hg1 (by omega)).alloc c.o)
  have HC2 := Lib.hid (Cb.new w1 c.real c.acts c.saved c.groups)
  have hbl : Below w.heap.size w w1 := ((Below.refl _ _).alloc (Nat.le_refl _) _).trans ((hb0.mono (by simp)).trans (grown_below hg1 (by simp at hs0; omega) (by omega)))
  have Hbl := Lib.hid hbl
  have HR1 := Lib.hid hR1
  have hgw : g < w1.heap.size := hR1.lt
  have hws1 : w.heap.size < w1.heap.size := (HZ1.out.grown hg1 (by omega)).lt
  clear hbl hb0 hg1 hR0 hR1 hA h
  have hneA : w1.heap.size ≠ g := by omega
  have hneZ : w.heap.size ≠ g := by omega
  go_wp2_with fail
  refine (user_any g p1 _ (HR1.out.alloc _) (by omega)).mono ?_
  rintro e w2 ⟨u, p2, rfl, u0, u1, hp2, hR2, hg2⟩
  have HZ3 := Lib.hid (HZ2.out.grown hg2 hneZ)
  have HC3 := Lib.hid (HC2.out.grown hg2 hneA)
  have HX2 := Lib.hid (Hbl.out.trans (((Below.refl _ _).alloc (by omega) _).trans (grown_below (B := w.heap.size) hg2 (by simp; omega) (by omega))))
  have hs2 : w.heap.size ≤ w2.heap.size := HX2.out.size
  have HR2 := Lib.hid hR2
  clear hg2 hR2 hs0
  go_wp2_with fail
  refine (group_any g p2 _ HR2.out (by omega)).mono ?_
  rintro e w3 ⟨y, p3, rfl, y0, y1, hp3, hR3, hg3⟩
  have HZ4 := Lib.hid (HZ3.out.grown hg3 hneZ)
  have HC4 := Lib.hid (HC3.out.grown hg3 hneA)
  have HX3 := Lib.hid (HX2.out.trans (grown_below (B := w.heap.size) hg3 (by omega) (by omega)))
  have hs3 : w.heap.size ≤ w3.heap.size := HX3.out.size
  have HR3 := Lib.hid hR3
  clear hg3 hR3
  go_wp2_with fail
  refine (mode_any g p3 12 _ HR3.out (by omega) (by omega) (by omega)).mono ?_
  rintro e w4 ⟨m, p4, rfl, m0, m1, hp4, hR4, hg4⟩
  have hZ4 : Cb w4 w.heap.size 0 0 0 0 := HZ4.out.grown hg4 hneZ
  have hC4 : Cb w4 w1.heap.size c.real c.acts c.saved c.groups := HC4.out.grown hg4 hneA
  have HX4 := Lib.hid (HX3.out.trans (grown_below (B := w.heap.size) hg4 (by omega) (by omega)))
  have hs4 : w.heap.size ≤ w4.heap.size := HX4.out.size
  have HR4 := Lib.hid hR4
  clear hg4 hR4
  obtain ⟨⟨l0, l1, l2, l3⟩, lf⟩ := hZ4.facts
  obtain ⟨⟨k0, k1, k2, k3⟩, kf⟩ := hC4.facts
  go_wp2_with fail
  go_region_with
    (first
    | (go_at_call_of 62 (Value.int .i64 9); refine (pick_any g p4 9 _ (by repeat (first | exact HR4.out | refine Rd.drew ?_)) (by omega) (by omega)).mono ?_; rintro e w5 ⟨x, rfl, x0, x1, x2, hR5, hg5⟩; have hx := x1 (by omega); have hC5 : Cb w5 w1.heap.size c.real c.acts c.saved c.groups := Cb.grown (by repeat (first | assumption | refine Cb.drew ?_)) hg5 hneA; have hZ5 : Cb w5 w.heap.size 0 0 0 0 := Cb.grown (by repeat (first | assumption | refine Cb.drew ?_)) hg5 hneZ; obtain ⟨⟨n0, n1, n2, n3⟩, nf⟩ := hZ5.facts; obtain ⟨⟨q0, q1, q2, q3⟩, qf⟩ := hC5.facts; have HX5 := Lib.hid (HX4.out.trans ((Below.refl _ _).drew.trans (grown_below (B := w.heap.size) hg5 (by show w.heap.size ≤ w4.heap.size; omega) (by omega)))); have hs5 : w.heap.size ≤ w5.heap.size := HX5.out.size)
    | (go_at_call_of 62 (Value.int .i64 14); refine (pick_any g (p4 + 1) 14 _ (by repeat (first | exact hR5 | refine Rd.drew ?_)) (by omega) (by omega)).mono ?_; rintro e w6 ⟨z, rfl, z0, z1, z2, hR6, hg6⟩; have hz := z1 (by omega); have hC6 : Cb w6 w1.heap.size c.real c.acts c.saved c.groups := Cb.grown (by repeat (first | assumption | refine Cb.drew ?_)) hg6 hneA; have hZ6 : Cb w6 w.heap.size 0 0 0 0 := Cb.grown (by repeat (first | assumption | refine Cb.drew ?_)) hg6 hneZ; obtain ⟨⟨r0, r1, r2, r3⟩, rf⟩ := hZ6.facts; obtain ⟨⟨t0, t1, t2, t3⟩, tf⟩ := hC6.facts; have HX6 := Lib.hid (HX5.out.trans (grown_below (B := w.heap.size) hg6 (by omega) (by omega)))))
  all_goals
    go_wp2
    have hw : IntKind.i64.wrap (x - IntKind.i64.wrap (z.tdiv 13)) = x - z / 13 := by
      have e1 : IntKind.i64.wrap (z / 13) = z / 13 := IntWalk.i64_in _ (by omega)
      rw [Int.tdiv_eq_ediv_of_nonneg z0, e1, IntWalk.i64_in _ (by omega)]
    refine bodyPost_ret (v := .tuple #[c.v, .int .i64 u, .int .i64 y, .int .i64 m, .int .i64 (x - z / 13)]) (by simp [results, Try.results22, go_sem, r0, r1, r2, r3, hw]) rfl ⟨c, u, y, m, _, rfl, hsm, by omega, by omega, by omega, by omega, ?_⟩
    exact (((HX6.out.setCell (Nat.le_refl _) _).setCell (Nat.le_refl _) _).setCell (Nat.le_refl _) _).setCell (Nat.le_refl _) _
theorem dAllowed_any (v : Value) (w : World) (h : CodeAt w v) : Calls Try.prog 25 #[v] w fun e w' => ∃ (c : Cr) (x y m : Int), e = .returned (.tuple #[c.v, .int .i64 x, .int .i64 y, .int .i64 m]) ∧ c.small ∧ (0 ≤ x ∧ x ≤ 7) ∧ (-1 ≤ y ∧ y ≤ 8) ∧ (-1 ≤ m ∧ m ≤ 1024) ∧ Below w.heap.size w w' := by
  have hA : CodeAt (w.alloc (.cells #[.int .i64 0, .int .i64 0, .int .i64 0, .int .i64 0] 28)) v := h.alloc _
  have HZ0 := Lib.hid (Cb.new w 0 0 0 0)
  go_enter Try.func25, Try.ntmps25
  go_wp2_with fail
  refine (dMayDo_any v _ hA).mono ?_
  rintro e w1 ⟨c, x, y, m, q, rfl, hsm, hx, hy, hm, hq, hb⟩
  have HZ1 := Lib.hid (HZ0.out.below hb)
  obtain ⟨⟨l0, l1, l2, l3⟩, lf⟩ := HZ1.out.facts
  have hs1 : w.heap.size < w1.heap.size := Nat.lt_of_lt_of_le (by simp) hb.size
  have HX := Lib.hid (((Below.refl w.heap.size w).alloc (Nat.le_refl _) _).trans (hb.mono (by simp)))
  clear hb hA h
  go_wp2
  refine bodyPost_ret (v := .tuple #[c.v, .int .i64 x, .int .i64 y, .int .i64 m]) (by simp [results, Try.results25, go_sem, l0, l1, l2, l3, hs1]) rfl ⟨c, x, y, m, rfl, hsm, hx, hy, hm, ?_⟩
  refine Below.alloc ?_ (by simp [World.setCell]; omega) _
  exact (((HX.out.setCell (Nat.le_refl _) _).setCell (Nat.le_refl _) _).setCell (Nat.le_refl _) _).setCell (Nat.le_refl _) _
end Go.Proofs.Ytifnjinkddelmaa
