/-
  What the draws return: numbers, texts and credentials within bounds.
  Conditions: the reader has been asked fewer than 99,000 times.
-/
import Derived.Test.YtifnjinkddelmaaDraw
import Derived.Test.YtifnjinkddelmaaMode
import Derived.Deep.RegionWith
namespace Go.Proofs.Ytifnjinkddelmaa
open Go.ChangeShapes Go.WideShapes Go.ChangeAt Go.RowKit
set_option maxHeartbeats 2000000

theorem grown_set_new {a b : World} {g : Nat} (h : a.grownBy b (some g)) {k o : Nat} (hk : a.heap.size ≤ k) (u : Value) : a.grownBy (b.setCell ⟨k, o, none⟩ u) (some g) :=
  ⟨h.os, h.tape, h.output, by have := h.size; simp [World.setCell]; omega, fun i hi hne => (Below.heap_setCell b _ u i (by show i ≠ k; omega)).trans (h.block i hi hne)⟩
/-- A block that holds a credential's four numbers. -/
def Cb (w : World) (cb : Nat) (r a s gr : Int) : Prop := w.heap[cb]? = some (.cells #[.int .i64 r, .int .i64 a, .int .i64 s, .int .i64 gr] 28 (0, 0))
theorem Cb.facts {w : World} {cb : Nat} {r a s gr : Int} (h : Cb w cb r a s gr) :
    (w.cell? ⟨cb, 0, none⟩ = some (.int .i64 r) ∧ w.cell? ⟨cb, 1, none⟩ = some (.int .i64 a) ∧ w.cell? ⟨cb, 2, none⟩ = some (.int .i64 s) ∧ w.cell? ⟨cb, 3, none⟩ = some (.int .i64 gr)) ∧ ∀ o, w.frozen? ⟨cb, o, none⟩ = false := by
  unfold Cb at h
  exact ⟨⟨cell_of_row w cb 0 _ _ _ h, cell_of_row w cb 1 _ _ _ h, cell_of_row w cb 2 _ _ _ h, cell_of_row w cb 3 _ _ _ h⟩, fun o => frozen_of_row w cb o _ _ h⟩
theorem Cb.new (w : World) (r a s gr : Int) : Cb (w.alloc (.cells #[.int .i64 r, .int .i64 a, .int .i64 s, .int .i64 gr] 28)) w.heap.size r a s gr := heap_alloc_new w _
theorem Cb.lt {w : World} {cb : Nat} {r a s gr : Int} (h : Cb w cb r a s gr) : cb < w.heap.size := by
  rcases Nat.lt_or_ge cb w.heap.size with hlt | hge
  · exact hlt
  · unfold Cb at h; rw [Array.getElem?_eq_none hge] at h; cases h
theorem Cb.grown {w w' : World} {cb g : Nat} {r a s gr : Int} (h : Cb w cb r a s gr) (hg : w.grownBy w' (some g)) (hne : cb ≠ g) : Cb w' cb r a s gr :=
  (hg.block cb h.lt (by simpa using hne)).trans h
theorem Cb.alloc {w : World} {cb : Nat} {r a s gr : Int} (h : Cb w cb r a s gr) (o : Obj) : Cb (w.alloc o) cb r a s gr := (Below.heap_alloc w o cb h.lt).trans h
theorem Cb.far {w : World} {cb k o : Nat} {r a s gr : Int} (h : Cb w cb r a s gr) (hne : cb ≠ k) (u : Value) : Cb (w.setCell ⟨k, o, none⟩ u) cb r a s gr := (Below.heap_setCell w _ u cb hne).trans h
theorem Cb.set1 {w : World} {cb : Nat} {r a s gr : Int} (h : Cb w cb r a s gr) (x : Int) : Cb (w.setCell ⟨cb, 1, none⟩ (.int .i64 x)) cb r x s gr := by
  unfold Cb at h ⊢; rw [heap_set w cb 1 _ h]; rfl
theorem Cb.set2 {w : World} {cb : Nat} {r a s gr : Int} (h : Cb w cb r a s gr) (x : Int) : Cb (w.setCell ⟨cb, 2, none⟩ (.int .i64 x)) cb r a x gr := by
  unfold Cb at h ⊢; rw [heap_set w cb 2 _ h]; rfl
theorem grown_drew {a b : World} {g : Nat} (h : a.grownBy b (some g)) : a.grownBy b.drew (some g) := ⟨h.os, h.tape, h.output, h.size, h.block⟩
theorem drew_grown {a b : World} {g : Nat} (h : a.drew.grownBy b (some g)) : a.grownBy b (some g) := ⟨h.os, h.tape, h.output, h.size, h.block⟩
theorem alloc_grown {a b : World} {o : Obj} {g : Nat} (h : (a.alloc o).grownBy b (some g)) : a.grownBy b (some g) :=
  grown_trans (grown_alloc (grown_self a g) o) h
/-- A text of at most c bytes. -/
def PkS (c m : Nat) (g p : Nat) (w : World) (e : Ending) (w' : World) : Prop :=
  ∃ (s : ByteArray) (p' : Nat), e = .returned (.string s) ∧ s.size ≤ m ∧ p' ≤ p + c ∧ Rd w' g p' ∧ w.grownBy w' (some g)
/-- A credential, its numbers bounded. -/
def Cr.small (c : Cr) : Prop := (-1 ≤ c.real ∧ c.real ≤ 256) ∧ (-1 ≤ c.acts ∧ c.acts ≤ 256) ∧ (-1 ≤ c.saved ∧ c.saved ≤ 256) ∧ (-1 ≤ c.groups ∧ c.groups ≤ 256)
def PkC (k : Nat) (g p : Nat) (w : World) (e : Ending) (w' : World) : Prop :=
  ∃ (c : Cr) (p' : Nat), e = .returned c.v ∧ c.small ∧ p' ≤ p + k ∧ Rd w' g p' ∧ w.grownBy w' (some g)

theorem group_any (g p : Nat) (w : World) (h : Rd w g p) (hp : p < 99990) :
    Calls Try.prog 60 #[.pointer (some ⟨g, 0, none⟩)] w (Pk 2 (-1) 8 g p w) := by
  go_enter Try.func60, Try.ntmps60
  go_wp2_with fail
  refine (pick_any g p 3 _ h (by omega) (by omega)).mono ?_
  rintro e w1 ⟨y, rfl, y0, y1, y2, hR, hg⟩
  have hy : y ≤ 2 := by have := y1 (by omega); omega
  clear y1 y2 h
  have hne : w1.heap.size ≠ g := by have := hR.lt; omega
  have hne2 : w1.heap.size + 1 ≠ g := by have := hR.lt; omega
  have HR0 := Lib.hid hR
  have Hg0 := Lib.hid hg
  clear hR hg
  go_wp2_with fail
  refine (pick_any g (p + 1) 9 _ ((HR0.out.alloc _).alloc _) (by omega) (by omega)).mono ?_
  rintro e w2 ⟨x, rfl, x0, x1, x2, hR, hg⟩
  obtain ⟨hc, hf⟩ := gcell hg
  have hx : x = 0 ∨ x = 1 ∨ x = 2 ∨ x = 3 ∨ x = 4 ∨ x = 5 ∨ x = 6 ∨ x = 7 ∨ x = 8 := by have := x1 (by omega); omega
  clear x1 x2
  have Hg := Lib.hid (grown_trans (grown_alloc (grown_alloc Hg0.out _) _) hg)
  have HR := Lib.hid hR
  clear hg hR
  rcases hx with rfl | rfl | rfl | rfl | rfl | rfl | rfl | rfl | rfl
  all_goals
    go_wp2
    go_ret
    exact ⟨_, _, rfl, by omega, by omega, by omega, HR.out, Hg.out⟩
theorem mode_any (g p : Nat) (n : Int) (w : World) (h : Rd w g p) (hp : p < 99990) (n0 : 0 ≤ n) (n1 : n < 1000000) :
    Calls Try.prog 61 #[.pointer (some ⟨g, 0, none⟩), .int .i64 n] w (Pk 4 (-1) 1024 g p w) := by
  go_enter Try.func61, Try.ntmps61
  go_wp2_with fail
  refine (odd_any g p n _ h (by omega) n0 n1).mono ?_
  rintro e w0 ⟨b, p0, rfl, hp0, hR, hg⟩
  have HR0 := Lib.hid hR
  have Hg0 := Lib.hid hg
  have hne : w0.heap.size ≠ g := by have := hR.lt; omega
  clear h hR hg
  cases b
  · go_wp2_with fail
    refine (pick_any g p0 256 _ HR0.out (by omega) (by omega)).mono ?_
    rintro e w1 ⟨y, rfl, y0, y1, y2, hR, hg⟩
    have hy : y ≤ 255 := by have := y1 (by omega); omega
    clear y1 y2
    have Hg1 := Lib.hid (grown_trans Hg0.out hg)
    have HR1 := Lib.hid hR
    clear hR hg
    go_wp2_with fail
    refine (pick_any g (p0 + 1) 256 _ HR1.out (by omega) (by omega)).mono ?_
    rintro e w2 ⟨z, rfl, z0, z1, z2, hR, hg⟩
    have hz : z ≤ 255 := by have := z1 (by omega); omega
    clear z1 z2
    have Hg2 := Lib.hid (grown_trans Hg1.out hg)
    have HR2 := Lib.hid hR
    have hne2 : w2.heap.size ≠ g := by have := hR.lt; omega
    clear hR hg
    go_wp2_with fail
    refine (pick_any g (p0 + 1 + 1) 7 _ (HR2.out.alloc _) (by omega) (by omega)).mono ?_
    rintro e w3 ⟨x, rfl, x0, x1, x2, hR, hg⟩
    obtain ⟨hc, hf⟩ := gcell hg
    have hx : x = 0 ∨ x = 1 ∨ x = 2 ∨ x = 3 ∨ x = 4 ∨ x = 5 ∨ x = 6 := by have := x1 (by omega); omega
    clear x1 x2
    have Hg := Lib.hid (grown_trans (grown_alloc Hg2.out _) hg)
    have HR := Lib.hid hR
    clear hg hR
    rcases hx with rfl | rfl | rfl | rfl | rfl | rfl | rfl
    all_goals
      go_wp2
      go_ret
      exact ⟨_, _, rfl, by omega, by omega, by omega, HR.out, Hg.out⟩
  · go_wp2_with fail
    refine (pick_any g p0 2 _ (HR0.out.alloc _) (by omega) (by omega)).mono ?_
    rintro e w3 ⟨x, rfl, x0, x1, x2, hR, hg⟩
    obtain ⟨hc, hf⟩ := gcell hg
    have hx : x = 0 ∨ x = 1 := by have := x1 (by omega); omega
    clear x1 x2
    have Hg := Lib.hid (grown_trans (grown_alloc Hg0.out _) hg)
    have HR := Lib.hid hR
    clear hg hR
    rcases hx with rfl | rfl
    all_goals
      go_wp2
      go_ret
      exact ⟨_, _, rfl, by omega, by omega, by omega, HR.out, Hg.out⟩
theorem cred_any (g p : Nat) (n : Int) (w : World) (h : Rd w g p) (hp : p < 99900) (n0 : 0 ≤ n) (n1 : n < 1000000) :
    Calls Try.prog 58 #[.pointer (some ⟨g, 0, none⟩), .int .i64 n] w (PkC 12 g p w) := by
  have hne0 : w.heap.size ≠ g := by have := h.lt; omega
  go_enter Try.func58, Try.ntmps58
  go_wp2_with fail
  refine (user_any g p _ (h.alloc _) (by omega)).mono ?_
  rintro e w1 ⟨u, p1, rfl, u0, u1, hp1, hR1, hg1⟩
  obtain ⟨hc1, hf1⟩ := gcell hg1
  have hs1 : w.heap.size < w1.heap.size := Nat.lt_of_lt_of_le (by simp) hg1.size
  have Hg1 := Lib.hid (alloc_grown hg1)
  have Hg1x := Lib.hid hg1
  have hgw0 := h.lt
  have HR1 := Lib.hid hR1
  clear h hg1 hR1
  go_wp2_with fail
  refine (pick_any g p1 256 _ HR1.out (by omega) (by omega)).mono ?_
  rintro e w2 ⟨y, rfl, y0, y1, y2, hR2, hg2⟩
  have hy : y ≤ 255 := by have := y1 (by omega); omega
  clear y1 y2
  obtain ⟨hc2, hf2⟩ := gcell hg2
  have hs2 : w.heap.size < w2.heap.size := Nat.lt_of_lt_of_le hs1 hg2.size
  have hne2 : w2.heap.size ≠ g := by have := hR2.lt; omega
  have hne3 : w2.heap.size + 1 ≠ g := by have := hR2.lt; omega
  have Hg2 := Lib.hid (grown_trans Hg1.out hg2)
  have Hg2x := Lib.hid hg2
  have HR2 := Lib.hid hR2
  clear hg2 hR2
  go_wp2_with fail
  refine (pick_any g (p1 + 1) 4 _ (HR2.out.alloc _) (by omega) (by omega)).mono ?_
  rintro e w3 ⟨x, rfl, x0, x1, x2, hR3, hg3⟩
  obtain ⟨hc3, hf3⟩ := gcell hg3
  have hs3 : w.heap.size < w3.heap.size := Nat.lt_of_lt_of_le (by simp; omega) hg3.size
  have hs3' : w2.heap.size < w3.heap.size := Nat.lt_of_lt_of_le (by simp) hg3.size
  have hne4 : w3.heap.size ≠ g := by have := hR3.lt; omega
  obtain ⟨j, rfl⟩ := Int.eq_ofNat_of_zero_le x0
  have hj : (j : Int) < 4 := x1 (by omega)
  clear x0 x1 x2
  obtain ⟨t, ht, htj⟩ : ∃ yy : Int, (0 ≤ yy ∧ yy ≤ 255) ∧ (#[Value.int .i64 0, Value.int .i64 2, Value.int .i64 4, Value.int .i64 y] : Array Value)[j]? = some (.int .i64 yy) := (by have hj3 : j = 0 ∨ j = 1 ∨ j = 2 ∨ j = 3 := (by omega); rcases hj3 with rfl | rfl | rfl | rfl; exact ⟨0, by omega, rfl⟩; exact ⟨2, by omega, rfl⟩; exact ⟨4, by omega, rfl⟩; exact ⟨y, by omega, rfl⟩)
  have hcell : w3.cell? ⟨w2.heap.size, j, none⟩ = some (.int .i64 t) := by
    rw [hc3 _ _ (by simp) hne2, World.cell?_alloc_at _ _ _ _ rfl]; exact htj
  have Hg3 := Lib.hid (grown_trans Hg2.out (alloc_grown hg3))
  have Hg3x := Lib.hid hg3
  have HR3 := Lib.hid hR3
  clear hg3 hR3
  go_wp2_with fail
  refine (pick_any g (p1 + 1 + 1) 3 _ ((HR3.out.alloc _)) (by omega) (by omega)).mono ?_
  rintro e w4 ⟨z, rfl, z0, z1, z2, hR4, hg4⟩
  have hz : z = 0 ∨ z ≠ 0 := by omega
  have HC3 := Lib.hid (Cb.new w3 u u u t)
  have HC4 := Lib.hid (HC3.out.grown hg4 hne4)
  have HZ4 := Lib.hid ((((((Cb.new w 0 0 0 0).grown Hg1x.out hne0).grown Hg2x.out hne0).alloc _).grown Hg3x.out hne0 |>.alloc _).grown hg4 hne0)
  have Hg4 := Lib.hid (grown_trans Hg3.out (alloc_grown hg4))
  have HR4 := Lib.hid hR4
  have hgw := Lib.hid (show g < w3.heap.size from HR3.out.lt)
  have hs4 : w3.heap.size < w4.heap.size := Nat.lt_of_lt_of_le (by simp) hg4.size
  have hwg := Lib.hid hgw0
  clear hg4 hR4 z0 z1 z2 hc1 hc2 hc3 hf1 hf2 hf3 hcell htj
  rcases hz with rfl | hz
  · go_wp2_with fail
    refine (user_any g _ _ HR4.out (by omega)).mono ?_
    rintro e w5 ⟨a, p5, rfl, a0, a1, hp5, hR5, hg5⟩
    have HC5 := Lib.hid (HC4.out.grown hg5 hne4)
    have HZ5 := Lib.hid (HZ4.out.grown hg5 hne0)
    have Hg5 := Lib.hid (grown_trans Hg4.out hg5)
    have HR5 := Lib.hid hR5
    obtain ⟨⟨k0, k1, k2, k3⟩, kf⟩ := HC5.out.facts
    clear hg5 hR5
    go_wp2_with fail
    refine (user_any g _ _ (HR5.out.setCell ⟨w3.heap.size, 1, none⟩ _ hgw.out) (by omega)).mono ?_
    rintro e w6 ⟨s, p6, rfl, s0, s1, hp6, hR6, hg6⟩
    have HC6 := Lib.hid ((HC5.out.set1 a).grown hg6 hne4)
    have HZ6 := Lib.hid ((HZ5.out.far (k := w3.heap.size) (o := 1) (by have := hs3; omega) (.int .i64 a)).grown hg6 hne0)
    have Hg6 := Lib.hid (grown_trans (grown_set_new Hg5.out (k := w3.heap.size) (o := 1) (by have := hs3; omega) (.int .i64 a)) hg6)
    have HR6 := Lib.hid hR6
    clear k0 k1 k2 k3 kf
    obtain ⟨⟨k0, k1, k2, k3⟩, kf⟩ := HC6.out.facts
    clear hg6 hR6
    go_wp2_with fail
    refine (odd_any g _ n _ (HR6.out.setCell ⟨w3.heap.size, 2, none⟩ _ hgw.out) (by omega) n0 n1).mono ?_
    rintro e w7 ⟨b, p7, rfl, hp7, hR7, hg7⟩
    have HC7 := Lib.hid ((HC6.out.set2 s).grown hg7 hne4)
    have HZ7 := Lib.hid ((HZ6.out.far (k := w3.heap.size) (o := 2) (by have := hs3; omega) (.int .i64 s)).grown hg7 hne0)
    have Hg7 := Lib.hid (grown_trans (grown_set_new Hg6.out (k := w3.heap.size) (o := 2) (by have := hs3; omega) (.int .i64 s)) hg7)
    have HR7 := Lib.hid hR7
    clear k0 k1 k2 k3 kf hg7 hR7
    obtain ⟨⟨k0, k1, k2, k3⟩, kf⟩ := HC7.out.facts
    obtain ⟨⟨l0, l1, l2, l3⟩, lf⟩ := HZ7.out.facts
    have hfin : ∀ (c : Cr) (W : World), c.small → Rd W g p7 → w.grownBy W (some g) → PkC 12 g p w (.returned c.v) W := fun c W a b d => ⟨c, p7, rfl, a, by omega, b, d⟩
    cases b
    · go_wp2
      refine bodyPost_ret (v := (⟨u, a, s, t⟩ : Cr).v) (by simp [results, Try.results58, go_sem, l0, l1, l2, l3]) rfl (hfin ⟨u, a, s, t⟩ _ (by simp only [Cr.small]; omega) ?_ ?_)
      · exact (((HR7.out.setCell ⟨w.heap.size, 0, none⟩ _ hwg.out).setCell ⟨w.heap.size, 1, none⟩ _ hwg.out).setCell ⟨w.heap.size, 2, none⟩ _ hwg.out).setCell ⟨w.heap.size, 3, none⟩ _ hwg.out
      · exact grown_set_new (grown_set_new (grown_set_new (grown_set_new Hg7.out (Nat.le_refl _) _) (Nat.le_refl _) _) (Nat.le_refl _) _) (Nat.le_refl _) _
    · clear hfin
      have hs7 : w.heap.size < w7.heap.size := HZ7.out.lt
      have hne7 : w7.heap.size ≠ g := by have := HR7.out.lt; omega
      clear k0 k1 k2 k3 kf
      go_wp2_with fail
      refine (pick_any g _ 4 _ (HR7.out.alloc _) (by omega) (by omega)).mono ?_
      rintro e w8 ⟨x, rfl, x0, x1, x2, hR8, hg8⟩
      obtain ⟨hc8, hf8⟩ := gcell hg8
      have HZ8 := Lib.hid ((HZ7.out.alloc _).grown hg8 hne0)
      have Hg8 := Lib.hid (grown_trans Hg7.out (alloc_grown hg8))
      have HR8 := Lib.hid hR8
      have hx : x = 0 ∨ x = 1 ∨ x = 2 ∨ x = 3 := by have := x1 (by omega); omega
      have hfin : ∀ (c : Cr) (W : World), c.small → Rd W g (p7 + 1) → w.grownBy W (some g) → PkC 12 g p w (.returned c.v) W := fun c W a b d => ⟨c, p7 + 1, rfl, a, by omega, b, d⟩
      clear x1 x2 hg8 hR8
      have hset : ∀ r a s gr : Int, Rd ((((w8.setCell ⟨w.heap.size, 0, none⟩ (.int .i64 r)).setCell ⟨w.heap.size, 1, none⟩ (.int .i64 a)).setCell ⟨w.heap.size, 2, none⟩ (.int .i64 s)).setCell ⟨w.heap.size, 3, none⟩ (.int .i64 gr)) g (p7 + 1) ∧ w.grownBy ((((w8.setCell ⟨w.heap.size, 0, none⟩ (.int .i64 r)).setCell ⟨w.heap.size, 1, none⟩ (.int .i64 a)).setCell ⟨w.heap.size, 2, none⟩ (.int .i64 s)).setCell ⟨w.heap.size, 3, none⟩ (.int .i64 gr)) (some g) := fun r a s gr =>
        ⟨(((HR8.out.setCell ⟨w.heap.size, 0, none⟩ _ hwg.out).setCell ⟨w.heap.size, 1, none⟩ _ hwg.out).setCell ⟨w.heap.size, 2, none⟩ _ hwg.out).setCell ⟨w.heap.size, 3, none⟩ _ hwg.out, grown_set_new (grown_set_new (grown_set_new (grown_set_new Hg8.out (Nat.le_refl _) _) (Nat.le_refl _) _) (Nat.le_refl _) _) (Nat.le_refl _) _⟩
      have Hset := Lib.hid hset
      clear hset
      rcases hx with rfl | rfl | rfl | rfl
      · go_wp2
        obtain ⟨⟨m0, m1, m2, m3⟩, mf⟩ := HZ8.out.facts
        clear hc8 hf8
        refine bodyPost_ret (v := (⟨-1, 0, 0, 0⟩ : Cr).v) (by simp [results, Try.results58, go_sem, m0, m1, m2, m3]) rfl (hfin ⟨-1, 0, 0, 0⟩ _ (by simp [Cr.small]) ?_ ?_)
        · exact (Hset.out _ _ _ _).1
        · exact (Hset.out _ _ _ _).2
      · go_wp2
        obtain ⟨⟨m0, m1, m2, m3⟩, mf⟩ := HZ8.out.facts
        clear hc8 hf8
        refine bodyPost_ret (v := (⟨0, 100, 0, 0⟩ : Cr).v) (by simp [results, Try.results58, go_sem, m0, m1, m2, m3]) rfl (hfin ⟨0, 100, 0, 0⟩ _ (by simp [Cr.small]) ?_ ?_)
        · exact (Hset.out _ _ _ _).1
        · exact (Hset.out _ _ _ _).2
      · go_wp2
        obtain ⟨⟨m0, m1, m2, m3⟩, mf⟩ := HZ8.out.facts
        clear hc8 hf8
        refine bodyPost_ret (v := (⟨0, 0, -1, 0⟩ : Cr).v) (by simp [results, Try.results58, go_sem, m0, m1, m2, m3]) rfl (hfin ⟨0, 0, -1, 0⟩ _ (by simp [Cr.small]) ?_ ?_)
        · exact (Hset.out _ _ _ _).1
        · exact (Hset.out _ _ _ _).2
      · go_wp2
        obtain ⟨⟨m0, m1, m2, m3⟩, mf⟩ := HZ8.out.facts
        clear hc8 hf8
        refine bodyPost_ret (v := (⟨0, 0, 0, 256⟩ : Cr).v) (by simp [results, Try.results58, go_sem, m0, m1, m2, m3]) rfl (hfin ⟨0, 0, 0, 256⟩ _ (by simp [Cr.small]) ?_ ?_)
        · exact (Hset.out _ _ _ _).1
        · exact (Hset.out _ _ _ _).2
  · have hz' : (z == 0) = false := by simpa using hz
    go_wp2_with fail
    refine (odd_any g _ n _ HR4.out (by omega) n0 n1).mono ?_
    rintro e w7 ⟨b, p7, rfl, hp7, hR7, hg7⟩
    have HC7 := Lib.hid (HC4.out.grown hg7 hne4)
    have HZ7 := Lib.hid (HZ4.out.grown hg7 hne0)
    have Hg7 := Lib.hid (grown_trans Hg4.out hg7)
    have HR7 := Lib.hid hR7
    clear hg7 hR7
    obtain ⟨⟨k0, k1, k2, k3⟩, kf⟩ := HC7.out.facts
    obtain ⟨⟨l0, l1, l2, l3⟩, lf⟩ := HZ7.out.facts
    have hfin : ∀ (c : Cr) (W : World), c.small → Rd W g p7 → w.grownBy W (some g) → PkC 12 g p w (.returned c.v) W := fun c W a b d => ⟨c, p7, rfl, a, by omega, b, d⟩
    cases b
    · go_wp2
      refine bodyPost_ret (v := (⟨u, u, u, t⟩ : Cr).v) (by simp [results, Try.results58, go_sem, l0, l1, l2, l3]) rfl (hfin ⟨u, u, u, t⟩ _ (by simp only [Cr.small]; omega) ?_ ?_)
      · exact (((HR7.out.setCell ⟨w.heap.size, 0, none⟩ _ hwg.out).setCell ⟨w.heap.size, 1, none⟩ _ hwg.out).setCell ⟨w.heap.size, 2, none⟩ _ hwg.out).setCell ⟨w.heap.size, 3, none⟩ _ hwg.out
      · exact grown_set_new (grown_set_new (grown_set_new (grown_set_new Hg7.out (Nat.le_refl _) _) (Nat.le_refl _) _) (Nat.le_refl _) _) (Nat.le_refl _) _
    · clear hfin
      have hs7 : w.heap.size < w7.heap.size := HZ7.out.lt
      have hne7 : w7.heap.size ≠ g := by have := HR7.out.lt; omega
      clear k0 k1 k2 k3 kf
      go_wp2_with fail
      refine (pick_any g _ 4 _ (HR7.out.alloc _) (by omega) (by omega)).mono ?_
      rintro e w8 ⟨x, rfl, x0, x1, x2, hR8, hg8⟩
      obtain ⟨hc8, hf8⟩ := gcell hg8
      have HZ8 := Lib.hid ((HZ7.out.alloc _).grown hg8 hne0)
      have Hg8 := Lib.hid (grown_trans Hg7.out (alloc_grown hg8))
      have HR8 := Lib.hid hR8
      have hx : x = 0 ∨ x = 1 ∨ x = 2 ∨ x = 3 := by have := x1 (by omega); omega
      have hfin : ∀ (c : Cr) (W : World), c.small → Rd W g (p7 + 1) → w.grownBy W (some g) → PkC 12 g p w (.returned c.v) W := fun c W a b d => ⟨c, p7 + 1, rfl, a, by omega, b, d⟩
      clear x1 x2 hg8 hR8
      have hset : ∀ r a s gr : Int, Rd ((((w8.setCell ⟨w.heap.size, 0, none⟩ (.int .i64 r)).setCell ⟨w.heap.size, 1, none⟩ (.int .i64 a)).setCell ⟨w.heap.size, 2, none⟩ (.int .i64 s)).setCell ⟨w.heap.size, 3, none⟩ (.int .i64 gr)) g (p7 + 1) ∧ w.grownBy ((((w8.setCell ⟨w.heap.size, 0, none⟩ (.int .i64 r)).setCell ⟨w.heap.size, 1, none⟩ (.int .i64 a)).setCell ⟨w.heap.size, 2, none⟩ (.int .i64 s)).setCell ⟨w.heap.size, 3, none⟩ (.int .i64 gr)) (some g) := fun r a s gr =>
        ⟨(((HR8.out.setCell ⟨w.heap.size, 0, none⟩ _ hwg.out).setCell ⟨w.heap.size, 1, none⟩ _ hwg.out).setCell ⟨w.heap.size, 2, none⟩ _ hwg.out).setCell ⟨w.heap.size, 3, none⟩ _ hwg.out, grown_set_new (grown_set_new (grown_set_new (grown_set_new Hg8.out (Nat.le_refl _) _) (Nat.le_refl _) _) (Nat.le_refl _) _) (Nat.le_refl _) _⟩
      have Hset := Lib.hid hset
      clear hset
      rcases hx with rfl | rfl | rfl | rfl
      · go_wp2
        obtain ⟨⟨m0, m1, m2, m3⟩, mf⟩ := HZ8.out.facts
        clear hc8 hf8
        refine bodyPost_ret (v := (⟨-1, 0, 0, 0⟩ : Cr).v) (by simp [results, Try.results58, go_sem, m0, m1, m2, m3]) rfl (hfin ⟨-1, 0, 0, 0⟩ _ (by simp [Cr.small]) ?_ ?_)
        · exact (Hset.out _ _ _ _).1
        · exact (Hset.out _ _ _ _).2
      · go_wp2
        obtain ⟨⟨m0, m1, m2, m3⟩, mf⟩ := HZ8.out.facts
        clear hc8 hf8
        refine bodyPost_ret (v := (⟨0, 100, 0, 0⟩ : Cr).v) (by simp [results, Try.results58, go_sem, m0, m1, m2, m3]) rfl (hfin ⟨0, 100, 0, 0⟩ _ (by simp [Cr.small]) ?_ ?_)
        · exact (Hset.out _ _ _ _).1
        · exact (Hset.out _ _ _ _).2
      · go_wp2
        obtain ⟨⟨m0, m1, m2, m3⟩, mf⟩ := HZ8.out.facts
        clear hc8 hf8
        refine bodyPost_ret (v := (⟨0, 0, -1, 0⟩ : Cr).v) (by simp [results, Try.results58, go_sem, m0, m1, m2, m3]) rfl (hfin ⟨0, 0, -1, 0⟩ _ (by simp [Cr.small]) ?_ ?_)
        · exact (Hset.out _ _ _ _).1
        · exact (Hset.out _ _ _ _).2
      · go_wp2
        obtain ⟨⟨m0, m1, m2, m3⟩, mf⟩ := HZ8.out.facts
        clear hc8 hf8
        refine bodyPost_ret (v := (⟨0, 0, 0, 256⟩ : Cr).v) (by simp [results, Try.results58, go_sem, m0, m1, m2, m3]) rfl (hfin ⟨0, 0, 0, 256⟩ _ (by simp [Cr.small]) ?_ ?_)
        · exact (Hset.out _ _ _ _).1
        · exact (Hset.out _ _ _ _).2
end Go.Proofs.Ytifnjinkddelmaa
