/-
  Contracts: AllowedRights, the program's and the reference's.
  Conditions: none.
-/
import Derived.Test.YtifnjinkddelmaaMay
import Derived.Deep.RegionWith
namespace Go.Proofs.Ytifnjinkddelmaa
open Go.ChangeShapes Go.WideShapes Go.ChangeAt Go.RowKit
set_option maxHeartbeats 4000000

theorem iAllowed_any (c : Cr) (o g m : Int) (w : World) :
    Calls Try.prog 21 #[c.v, .int .i64 o, .int .i64 g, .int .i64 m] w fun e w' => e = .returned (.int .i64 (allowF c o g m)) ∧ Below w.heap.size w w' := by
  cases hv : (c.ok && inR o 0 99 && inR g 0 7)
  · have Hcl := Lib.hid (classOf_lt c o g hv)
    have Hf := Lib.hid (allow_out (c := c) (o := o) (g := g) (m := m) (by rw [hv]; rfl))
    go_enter Try.func21, Try.ntmps21
    go_wp2_with fail
    refine (iClassOf_any c o g _).mono ?_; rintro e wA ⟨rfl, hA⟩
    have HA := Lib.hid (((Below.refl w.heap.size w).alloc (Nat.le_refl _) c.o).trans (hA.mono (by simp)))
    clear hA
    rw [Hcl.out]
    go_wp2
    go_ret
    exact ⟨by rw [Hf.out]; rfl, HA.out⟩
  · have hcl := classOf_ge c o g hv
    have hcb := clsOf_bd c o g
    have h0 : 0 ≤ classOf c o g := by omega
    clear hcl
    cases hm : inR m 0 1023
    · have Hf := Lib.hid (allow_out (c := c) (o := o) (g := g) (m := m) (by rw [hv, hm]; rfl))
      go_enter Try.func21, Try.ntmps21
      go_wp2_with fail
      refine (iClassOf_any c o g _).mono ?_; rintro e wA ⟨rfl, hA⟩
      have HA := Lib.hid (((Below.refl w.heap.size w).alloc (Nat.le_refl _) c.o).trans (hA.mono (by simp)))
      clear hA
      go_wp2_with (go_at_call 54; refine (isMode_any _ _).mono ?_; rintro e w' ⟨rfl, rfl⟩)
      go_ret
      exact ⟨by rw [Hf.out]; rfl, HA.out⟩
    · have Hf := Lib.hid (asum_all (c := c) (o := o) (g := g) (m := m) (by rw [hv, hm]; rfl))
      go_enter Try.func21, Try.ntmps21
      go_wp2_with fail
      refine (iClassOf_any c o g _).mono ?_; rintro e wA ⟨rfl, hA⟩; obtain ⟨hc, hf⟩ := bcell hA
      have HA := Lib.hid (((Below.refl w.heap.size w).alloc (Nat.le_refl _) c.o).trans (hA.mono (by simp)))
      have hsA : w.heap.size < wA.heap.size := Nat.lt_of_lt_of_le (by simp) hA.size
      have k0 : wA.cell? ⟨w.heap.size, 0, none⟩ = some (.int .i64 c.real) := by rw [hc _ _ (by simp), World.cell?_alloc_at _ _ _ _ rfl]; rfl
      have k1 : wA.cell? ⟨w.heap.size, 1, none⟩ = some (.int .i64 c.acts) := by rw [hc _ _ (by simp), World.cell?_alloc_at _ _ _ _ rfl]; rfl
      have k2 : wA.cell? ⟨w.heap.size, 2, none⟩ = some (.int .i64 c.saved) := by rw [hc _ _ (by simp), World.cell?_alloc_at _ _ _ _ rfl]; rfl
      have k3 : wA.cell? ⟨w.heap.size, 3, none⟩ = some (.int .i64 c.groups) := by rw [hc _ _ (by simp), World.cell?_alloc_at _ _ _ _ rfl]; rfl
      clear hA hc hf
      go_wp2_with (go_at_call 54; refine (isMode_any _ _).mono ?_; rintro e w' ⟨rfl, rfl⟩)
      generalize hW : wA.alloc (.cells #[.int .i64 1, .int .i64 2, .int .i64 4] 3) = W0
      have q0 : W0.cell? ⟨wA.heap.size, 0, none⟩ = some (.int .i64 1) := by rw [← hW, World.cell?_alloc_at _ _ _ _ rfl]; rfl
      have q1 : W0.cell? ⟨wA.heap.size, 1, none⟩ = some (.int .i64 2) := by rw [← hW, World.cell?_alloc_at _ _ _ _ rfl]; rfl
      have q2 : W0.cell? ⟨wA.heap.size, 2, none⟩ = some (.int .i64 4) := by rw [← hW, World.cell?_alloc_at _ _ _ _ rfl]; rfl
      have c0 : W0.cell? ⟨w.heap.size, 0, none⟩ = some (.int .i64 c.real) := by rw [← hW, World.cell?_alloc_lt _ _ _ (by simpa using hsA)]; exact k0
      have c1 : W0.cell? ⟨w.heap.size, 1, none⟩ = some (.int .i64 c.acts) := by rw [← hW, World.cell?_alloc_lt _ _ _ (by simpa using hsA)]; exact k1
      have c2 : W0.cell? ⟨w.heap.size, 2, none⟩ = some (.int .i64 c.saved) := by rw [← hW, World.cell?_alloc_lt _ _ _ (by simpa using hsA)]; exact k2
      have c3 : W0.cell? ⟨w.heap.size, 3, none⟩ = some (.int .i64 c.groups) := by rw [← hW, World.cell?_alloc_lt _ _ _ (by simpa using hsA)]; exact k3
      have s0 : wA.heap.size < W0.heap.size := by rw [← hW]; simp
      have s1 : w.heap.size < W0.heap.size := by omega
      have HA0 := Lib.hid (show Below w.heap.size w W0 by rw [← hW]; exact HA.out.alloc (by omega) _)
      clear hW k0 k1 k2 k3 hsA
      go_loopw [9, 24] (fun sm ix wr => ∃ (j : Nat) (t : Int), j ≤ 3 ∧ ix = .int .i64 j ∧ sm = .int .i64 t ∧ 0 ≤ t ∧ t ≤ 100 * j ∧ t = asum c o g m j ∧ Below W0.heap.size W0 wr) (fun _ ix _ => (3 - intOf ix).toNat)
      case atStart => exact ⟨0, 0, by omega, rfl, rfl, by omega, by omega, rfl, Below.refl _ _⟩
      case round =>
        obtain ⟨j, t, hj, rfl, rfl, t0, t1, ht, hb⟩ := hrel
        have Ht := Lib.hid ht
        obtain ⟨hc, hf⟩ := bcell hb
        have Hb := Lib.hid hb
        have hsr : W0.heap.size ≤ wr.heap.size := hb.size
        clear ht hb
        have hcs : j = 0 ∨ j = 1 ∨ j = 2 ∨ j = 3 := by omega
        rcases hcs with rfl | rfl | rfl | rfl
        · go_wp2_with fail
          refine (mayDo_any c o g m 1 _ hm rfl).mono ?_; rintro e wB ⟨rfl, hB⟩
          have HB := Lib.hid (Hb.out.trans (hB.mono hsr))
          clear hB hc hf
          cases hq : mayB c o g m 1
          · go_wp2
            go_roundw
            case rel => exact ⟨1, t, by omega, rfl, rfl, by omega, by omega, asum_no (j := 0) Ht.out (by decide) hq, HB.out⟩
            case measure => simp [intOf]
          · go_wp2
            go_roundw
            case rel => exact ⟨1, t + 1, by omega, rfl, rfl, by omega, by omega, asum_yes (j := 0) Ht.out (by decide) hq, HB.out⟩
            case measure => simp [intOf]
        · go_wp2_with fail
          refine (mayDo_any c o g m 2 _ hm rfl).mono ?_; rintro e wB ⟨rfl, hB⟩
          have HB := Lib.hid (Hb.out.trans (hB.mono hsr))
          clear hB hc hf
          cases hq : mayB c o g m 2
          · go_wp2
            go_roundw
            case rel => exact ⟨2, t, by omega, rfl, rfl, by omega, by omega, asum_no (j := 1) Ht.out (by decide) hq, HB.out⟩
            case measure => simp [intOf]
          · go_wp2
            go_roundw
            case rel => exact ⟨2, t + 2, by omega, rfl, rfl, by omega, by omega, asum_yes (j := 1) Ht.out (by decide) hq, HB.out⟩
            case measure => simp [intOf]
        · go_wp2_with fail
          refine (mayDo_any c o g m 4 _ hm rfl).mono ?_; rintro e wB ⟨rfl, hB⟩
          have HB := Lib.hid (Hb.out.trans (hB.mono hsr))
          clear hB hc hf
          cases hq : mayB c o g m 4
          · go_wp2
            go_roundw
            case rel => exact ⟨3, t, by omega, rfl, rfl, by omega, by omega, asum_no (j := 2) Ht.out (by decide) hq, HB.out⟩
            case measure => simp [intOf]
          · go_wp2
            go_roundw
            case rel => exact ⟨3, t + 4, by omega, rfl, rfl, by omega, by omega, asum_yes (j := 2) Ht.out (by decide) hq, HB.out⟩
            case measure => simp [intOf]
        · go_wp2
          go_ret
          exact ⟨by rw [← Hf.out, ← Ht.out]; rfl, HA0.out.trans (Hb.out.mono (by omega))⟩
theorem mayF_of (c : Cr) (o g m want : Int) (hv : (c.ok && inR o 0 99 && inR g 0 7) = true) (hm : inR m 0 1023 = true) (hw : inR want 0 7 = true) : mayF c o g m want = mayB c o g m want := by
  rw [mayF, hv, hm, hw]; rfl
theorem sAllowed_any (c : Cr) (o g m : Int) (w : World) :
    Calls Try.prog 20 #[c.v, .int .i64 o, .int .i64 g, .int .i64 m] w fun e w' => e = .returned (.int .i64 (allowF c o g m)) ∧ Below w.heap.size w w' := by
  cases hv : (c.ok && inR o 0 99 && inR g 0 7)
  · have Hcl := Lib.hid (show classOf c o g = -1 by rw [classOf, if_neg (by simp [hv])])
    have Hf := Lib.hid (allow_out (c := c) (o := o) (g := g) (m := m) (by rw [hv]; rfl))
    go_enter Try.func20, Try.ntmps20
    go_wp2_with fail
    refine (sClassOf_any c o g _).mono ?_; rintro e wA ⟨rfl, hA⟩
    have HA := Lib.hid (((Below.refl w.heap.size w).alloc (Nat.le_refl _) c.o).trans (hA.mono (by simp)))
    clear hA
    rw [Hcl.out]
    go_wp2
    go_ret
    exact ⟨by rw [Hf.out]; rfl, HA.out⟩
  · have hcl : classOf c o g = clsOf c o g := by rw [classOf, if_pos hv]
    have hcb := clsOf_bd c o g
    have h0 : 0 ≤ classOf c o g := by omega
    clear hcl
    cases hm : inR m 0 1023
    · have Hf := Lib.hid (allow_out (c := c) (o := o) (g := g) (m := m) (by rw [hv, hm]; rfl))
      go_enter Try.func20, Try.ntmps20
      go_wp2_with fail
      refine (sClassOf_any c o g _).mono ?_; rintro e wA ⟨rfl, hA⟩
      have HA := Lib.hid (((Below.refl w.heap.size w).alloc (Nat.le_refl _) c.o).trans (hA.mono (by simp)))
      clear hA
      go_wp2_with (go_at_call 49; refine (l1In_any _ _ _ _).mono ?_; rintro e w' ⟨rfl, rfl⟩)
      go_ret
      exact ⟨by rw [Hf.out]; rfl, HA.out⟩
    · have Hf := Lib.hid (asum_all (c := c) (o := o) (g := g) (m := m) (by rw [hv, hm]; rfl))
      have Hm1 := Lib.hid (mayF_of c o g m 1 hv hm rfl)
      have Hm2 := Lib.hid (mayF_of c o g m 2 hv hm rfl)
      have Hm4 := Lib.hid (mayF_of c o g m 4 hv hm rfl)
      go_enter Try.func20, Try.ntmps20
      go_wp2_with fail
      refine (sClassOf_any c o g _).mono ?_; rintro e wA ⟨rfl, hA⟩; obtain ⟨hc, hf⟩ := bcell hA
      have HA := Lib.hid (((Below.refl w.heap.size w).alloc (Nat.le_refl _) c.o).trans (hA.mono (by simp)))
      have hsA : w.heap.size < wA.heap.size := Nat.lt_of_lt_of_le (by simp) hA.size
      have k0 : wA.cell? ⟨w.heap.size, 0, none⟩ = some (.int .i64 c.real) := by rw [hc _ _ (by simp), World.cell?_alloc_at _ _ _ _ rfl]; rfl
      have k1 : wA.cell? ⟨w.heap.size, 1, none⟩ = some (.int .i64 c.acts) := by rw [hc _ _ (by simp), World.cell?_alloc_at _ _ _ _ rfl]; rfl
      have k2 : wA.cell? ⟨w.heap.size, 2, none⟩ = some (.int .i64 c.saved) := by rw [hc _ _ (by simp), World.cell?_alloc_at _ _ _ _ rfl]; rfl
      have k3 : wA.cell? ⟨w.heap.size, 3, none⟩ = some (.int .i64 c.groups) := by rw [hc _ _ (by simp), World.cell?_alloc_at _ _ _ _ rfl]; rfl
      clear hA hc hf
      go_wp2_with (go_at_call 49; refine (l1In_any _ _ _ _).mono ?_; rintro e w' ⟨rfl, rfl⟩)
      go_loopw [9, 10] (fun sm ix wr => ∃ (j : Nat) (t : Int), j ≤ 3 ∧ ix = .int .i64 j ∧ sm = .int .i64 t ∧ 0 ≤ t ∧ t ≤ 100 * j ∧ t = asum c o g m j ∧ Below wA.heap.size wA wr) (fun _ ix _ => (3 - intOf ix).toNat)
      case atStart => exact ⟨0, 0, by omega, rfl, rfl, by omega, by omega, rfl, Below.refl _ _⟩
      case round =>
        obtain ⟨j, t, hj, rfl, rfl, t0, t1, ht, hb⟩ := hrel
        have Ht := Lib.hid ht
        obtain ⟨hc, hf⟩ := bcell hb
        have Hb := Lib.hid hb
        have hsr : wA.heap.size ≤ wr.heap.size := hb.size
        clear ht hb
        have hcs : j = 0 ∨ j = 1 ∨ j = 2 ∨ j = 3 := by omega
        rcases hcs with rfl | rfl | rfl | rfl
        · cases hq : mayB c o g m 1
          · have hq2 : mayF c o g m 1 = false := Hm1.out.trans hq
            go_wp2_with fail
            go_region_with ((go_at_call 17; refine (sMayDo_any c o g m 1 _).mono ?_; rintro e wB ⟨rfl, hB⟩))
            all_goals
              have HB := Lib.hid (Hb.out.trans (((Below.refl wA.heap.size wr).drew).trans (hB.mono hsr)))
              clear hB hc hf
              go_wp2
              go_roundw
              case rel => exact ⟨1, t, by omega, rfl, rfl, by omega, by omega, asum_no (j := 0) Ht.out (by decide) hq, HB.out⟩
              case measure => simp [intOf]
          · have hq2 : mayF c o g m 1 = true := Hm1.out.trans hq
            go_wp2_with fail
            go_region_with ((go_at_call 17; refine (sMayDo_any c o g m 1 _).mono ?_; rintro e wB ⟨rfl, hB⟩))
            all_goals
              have HB := Lib.hid (Hb.out.trans (((Below.refl wA.heap.size wr).drew).trans (hB.mono hsr)))
              clear hB hc hf
              go_wp2
              go_roundw
              case rel => exact ⟨1, t + 1, by omega, rfl, rfl, by omega, by omega, asum_yes (j := 0) Ht.out (by decide) hq, HB.out⟩
              case measure => simp [intOf]
        · cases hq : mayB c o g m 2
          · have hq2 : mayF c o g m 2 = false := Hm2.out.trans hq
            go_wp2_with fail
            go_region_with ((go_at_call 17; refine (sMayDo_any c o g m 2 _).mono ?_; rintro e wB ⟨rfl, hB⟩))
            all_goals
              have HB := Lib.hid (Hb.out.trans (((Below.refl wA.heap.size wr).drew).trans (hB.mono hsr)))
              clear hB hc hf
              go_wp2
              go_roundw
              case rel => exact ⟨2, t, by omega, rfl, rfl, by omega, by omega, asum_no (j := 1) Ht.out (by decide) hq, HB.out⟩
              case measure => simp [intOf]
          · have hq2 : mayF c o g m 2 = true := Hm2.out.trans hq
            go_wp2_with fail
            go_region_with ((go_at_call 17; refine (sMayDo_any c o g m 2 _).mono ?_; rintro e wB ⟨rfl, hB⟩))
            all_goals
              have HB := Lib.hid (Hb.out.trans (((Below.refl wA.heap.size wr).drew).trans (hB.mono hsr)))
              clear hB hc hf
              go_wp2
              go_roundw
              case rel => exact ⟨2, t + 2, by omega, rfl, rfl, by omega, by omega, asum_yes (j := 1) Ht.out (by decide) hq, HB.out⟩
              case measure => simp [intOf]
        · cases hq : mayB c o g m 4
          · have hq2 : mayF c o g m 4 = false := Hm4.out.trans hq
            go_wp2_with fail
            go_region_with ((go_at_call 17; refine (sMayDo_any c o g m 4 _).mono ?_; rintro e wB ⟨rfl, hB⟩))
            all_goals
              have HB := Lib.hid (Hb.out.trans (((Below.refl wA.heap.size wr).drew).trans (hB.mono hsr)))
              clear hB hc hf
              go_wp2
              go_roundw
              case rel => exact ⟨3, t, by omega, rfl, rfl, by omega, by omega, asum_no (j := 2) Ht.out (by decide) hq, HB.out⟩
              case measure => simp [intOf]
          · have hq2 : mayF c o g m 4 = true := Hm4.out.trans hq
            go_wp2_with fail
            go_region_with ((go_at_call 17; refine (sMayDo_any c o g m 4 _).mono ?_; rintro e wB ⟨rfl, hB⟩))
            all_goals
              have HB := Lib.hid (Hb.out.trans (((Below.refl wA.heap.size wr).drew).trans (hB.mono hsr)))
              clear hB hc hf
              go_wp2
              go_roundw
              case rel => exact ⟨3, t + 4, by omega, rfl, rfl, by omega, by omega, asum_yes (j := 2) Ht.out (by decide) hq, HB.out⟩
              case measure => simp [intOf]
        · go_wp2
          go_ret
          exact ⟨by rw [← Hf.out, ← Ht.out]; rfl, HA.out.trans (Hb.out.mono (by omega))⟩
end Go.Proofs.Ytifnjinkddelmaa
