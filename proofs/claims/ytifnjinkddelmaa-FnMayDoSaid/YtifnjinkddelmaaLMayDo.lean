/-
  What is allowed together is allowed one by one, and the other way round; and without rights everything is allowed.
  Conditions: none.
-/
import Derived.Test.YtifnjinkddelmaaDraws2
import Derived.Test.YtifnjinkddelmaaAlive
import Derived.Test.YtifnjinkddelmaaAllowed
import Derived.Test.YtifnjinkddelmaaMayQ
import Derived.Test.YtifnjinkddelmaaHeld
namespace Go.Proofs.Ytifnjinkddelmaa.fnMayDo
open Go.ChangeShapes Go.WideShapes Go.ChangeAt Go.RowKit
open Go.ChangeMaps (open_string)
set_option linter.unusedVariables false
theorem cbN {w : World} {cb : Nat} {r a s gr : Int} (h : Cb w cb r a s gr) (n : Nat) : Cb (w.drewN n) cb r a s gr := h
theorem belowN {B : Nat} {a w : World} (h : Below B a w) (n : Nat) : Below B a (w.drewN n) := ⟨h.os, h.tape, h.output, h.size, h.block⟩
set_option maxHeartbeats 4000000 in
theorem walk (v0 : Value) (w : World) (w0 : CodeAt w v0) :
    Calls Try.prog 6 #[v0] w fun e w' => e = .returned (.bool true) ∧ Below w.heap.size w w' := by
  obtain ⟨ad, len, cap, bs, rfl, hlc, hcm, hbl, hbd, hcell⟩ := w0
  have h0 : CodeAt w (.slice ad len cap) := ⟨ad, len, cap, bs, rfl, hlc, hcm, hbl, hbd, hcell⟩
  unfold maxLen at hcm
  clear hbl hbd hcell
  by_cases hbig : 1048576 < len
  · clear h0
    go_enter Try.func6, Try.ntmps6
    go_wp2
    go_ret
    exact ⟨rfl, Below.refl _ _⟩
  · go_enter Try.func6, Try.ntmps6
    go_wp2_with fail
    refine (dMayDo_any _ _ h0).mono ?_; rintro e wA ⟨c, x, y, m, want, rfl, hsm, hx, hy, hm, hwt, hA⟩
    have HA := Lib.hid (((Below.refl _ _).trans hA).alloc hA.size c.o)
    have hs0 : w.heap.size ≤ wA.heap.size := hA.size
    have HC := Lib.hid (Cb.new wA c.real c.acts c.saved c.groups)
    clear hA h0
    go_wp2_with fail
    refine (iMayDo_any c _ _ _ _ _).mono ?_; rintro e wB ⟨rfl, hB⟩
    have HC1 := Lib.hid (HC.out.below hB)
    have HB := Lib.hid (HA.out.trans (hB.mono (by simp; omega)))
    have hsB : wA.heap.size < wB.heap.size := Nat.lt_of_lt_of_le (by simp) hB.size
    obtain ⟨⟨k0, k1, k2, k3⟩, kf⟩ := HC1.out.facts
    clear hB
    go_wp2_with fail
    refine (sMayDo_any c _ _ _ _ _).mono ?_; rintro e wD ⟨rfl, hD⟩
    have HC2 := Lib.hid (HC1.out.below hD)
    have HD := Lib.hid (HB.out.trans (hD.mono (by omega)))
    have hsD : wA.heap.size < wD.heap.size := Nat.lt_of_lt_of_le hsB hD.size
    clear k0 k1 k2 k3 kf hD
    obtain ⟨⟨k0, k1, k2, k3⟩, kf⟩ := HC2.out.facts
    cases hv : (c.ok && inR x 0 99 && inR y 0 7)
    · have Hcl := Lib.hid (classOf_lt c x y hv)
      have hf : mayF c x y m want = false := may_out (by rw [hv]; rfl)
      rw [hf]
      go_wp2_with fail
      refine (iClassOf_any c _ _ _).mono ?_; rintro e wE ⟨rfl, hE⟩
      have HE := Lib.hid (HD.out.trans (hE.mono (by omega)))
      clear hE
      rw [Hcl.out]
      go_wp2_with (go_at_call 24; refine (alive_any _).mono ?_; rintro e w' ⟨rfl, rfl⟩)
      go_ret
      exact ⟨rfl, HE.out⟩
    · have hge : 0 ≤ classOf c x y := by rw [classOf_ge c x y hv]; exact (clsOf_bd c x y).1
      by_cases hin : (0 ≤ m ∧ m ≤ 1023) ∧ (0 ≤ want ∧ want ≤ 7)
      · obtain ⟨⟨m0, m1⟩, w0, w1⟩ := hin
        have hvm : (c.ok && inR x 0 99 && inR y 0 7 && inR m 0 1023) = true := by rw [hv, inR_yes m0 m1]; rfl
        have Hall := Lib.hid (partA_all (w := want) hvm (inR_yes w0 w1))
        have Hz := Lib.hid (show mayF c x y m 0 = true by rw [may_in hvm rfl]; exact may_zero c x y m)
        clear hv
        go_wp2_with fail
        refine (iClassOf_any c _ _ _).mono ?_; rintro e wE ⟨rfl, hE⟩
        have HE := Lib.hid (HD.out.trans (hE.mono (by omega)))
        have HC3 := Lib.hid (HC2.out.below hE)
        clear hE k0 k1 k2 k3 kf
        go_wp2_with fail
        go_loopw [9, 10] (fun al k wr => ∃ (j : Nat) (A : Bool), j ≤ 3 ∧ k = .int .i64 j ∧ al = .bool A ∧ A = partA c x y m want j ∧ Cb wr wA.heap.size c.real c.acts c.saved c.groups ∧ Below w.heap.size w wr) (fun _ k _ => (3 - intOf k).toNat)
        case atStart => exact ⟨0, true, by omega, rfl, rfl, rfl, HC3.out, HE.out⟩
        case round =>
          obtain ⟨j, A, hj, rfl, rfl, hA, hC, hb⟩ := hrel
          have HA := Lib.hid hA
          clear hA
          obtain ⟨⟨k0, k1, k2, k3⟩, kf⟩ := hC.facts
          have hs : w.heap.size ≤ wr.heap.size := hb.size
          have hcs : j = 0 ∨ j = 1 ∨ j = 2 ∨ j = 3 := by omega
          rcases hcs with rfl | rfl | rfl | rfl
          · cases hq : mayF c x y m 1
            · cases A
              · cases hz : (want % 2 == 0)
                · go_wp2_with fail
                  go_quiet (fail)
                  go_wp2
                  go_roundw
                  case rel => exact ⟨1, _, by omega, rfl, rfl, (partA_step (j := 0) (z := false) (q := false) HA.out (by decide) (by rw [Int.ediv_one]; exact hz) hq), cbN hC _, belowN hb _⟩
                  case measure => simp [intOf]
                · go_wp2_with fail
                  go_quiet (fail)
                  go_wp2
                  go_roundw
                  case rel => exact ⟨1, _, by omega, rfl, rfl, (partA_step (j := 0) (z := true) (q := false) HA.out (by decide) (by rw [Int.ediv_one]; exact hz) hq), cbN hC _, belowN hb _⟩
                  case measure => simp [intOf]
              · cases hz : (want % 2 == 0)
                · have hz2 : (want.tmod 2 == 0) = false := (by rw [Int.tmod_eq_emod_of_nonneg w0]; exact hz)
                  go_wp2_with fail
                  go_region_held3 (fun W => W.cell? ⟨wA.heap.size, 0, none⟩ = some (.int .i64 c.real) ∧ W.cell? ⟨wA.heap.size, 1, none⟩ = some (.int .i64 c.acts) ∧ W.cell? ⟨wA.heap.size, 2, none⟩ = some (.int .i64 c.saved) ∧ W.cell? ⟨wA.heap.size, 3, none⟩ = some (.int .i64 c.groups)) (first | exact hC.facts.1 | exact HCF.facts.1) (first | (go_at_call 19; refine (iMayDo_any c x y m 1 _).mono ?_; rintro e wF ⟨rfl, hF⟩; have HCF : Cb wF wA.heap.size c.real c.acts c.saved c.groups := Cb.below (w := wr.drew) hC hF; have HBF := Lib.hid (hb.trans ((Below.refl _ wr).drew.trans (hF.mono hs)))))
                  go_wp2
                  go_roundw
                  case rel => exact ⟨1, _, by omega, rfl, rfl, (partA_step (j := 0) (z := false) (q := false) HA.out (by decide) (by rw [Int.ediv_one]; exact hz) hq), HCF, HBF.out⟩
                  case measure => simp [intOf]
                · have hz2 : (want.tmod 2 == 0) = true := (by rw [Int.tmod_eq_emod_of_nonneg w0]; exact hz)
                  go_wp2_with fail
                  go_quiet (fail)
                  go_wp2
                  go_roundw
                  case rel => exact ⟨1, _, by omega, rfl, rfl, (partA_step (j := 0) (z := true) (q := false) HA.out (by decide) (by rw [Int.ediv_one]; exact hz) hq), cbN hC _, belowN hb _⟩
                  case measure => simp [intOf]
            · cases A
              · cases hz : (want % 2 == 0)
                · go_wp2_with fail
                  go_quiet (fail)
                  go_wp2
                  go_roundw
                  case rel => exact ⟨1, _, by omega, rfl, rfl, (partA_step (j := 0) (z := false) (q := true) HA.out (by decide) (by rw [Int.ediv_one]; exact hz) hq), cbN hC _, belowN hb _⟩
                  case measure => simp [intOf]
                · go_wp2_with fail
                  go_quiet (fail)
                  go_wp2
                  go_roundw
                  case rel => exact ⟨1, _, by omega, rfl, rfl, (partA_step (j := 0) (z := true) (q := true) HA.out (by decide) (by rw [Int.ediv_one]; exact hz) hq), cbN hC _, belowN hb _⟩
                  case measure => simp [intOf]
              · cases hz : (want % 2 == 0)
                · have hz2 : (want.tmod 2 == 0) = false := (by rw [Int.tmod_eq_emod_of_nonneg w0]; exact hz)
                  go_wp2_with fail
                  go_region_held3 (fun W => W.cell? ⟨wA.heap.size, 0, none⟩ = some (.int .i64 c.real) ∧ W.cell? ⟨wA.heap.size, 1, none⟩ = some (.int .i64 c.acts) ∧ W.cell? ⟨wA.heap.size, 2, none⟩ = some (.int .i64 c.saved) ∧ W.cell? ⟨wA.heap.size, 3, none⟩ = some (.int .i64 c.groups)) (first | exact hC.facts.1 | exact HCF.facts.1) (first | (go_at_call 19; refine (iMayDo_any c x y m 1 _).mono ?_; rintro e wF ⟨rfl, hF⟩; have HCF : Cb wF wA.heap.size c.real c.acts c.saved c.groups := Cb.below (w := wr.drew) hC hF; have HBF := Lib.hid (hb.trans ((Below.refl _ wr).drew.trans (hF.mono hs)))))
                  go_wp2
                  go_roundw
                  case rel => exact ⟨1, _, by omega, rfl, rfl, (partA_step (j := 0) (z := false) (q := true) HA.out (by decide) (by rw [Int.ediv_one]; exact hz) hq), HCF, HBF.out⟩
                  case measure => simp [intOf]
                · have hz2 : (want.tmod 2 == 0) = true := (by rw [Int.tmod_eq_emod_of_nonneg w0]; exact hz)
                  go_wp2_with fail
                  go_quiet (fail)
                  go_wp2
                  go_roundw
                  case rel => exact ⟨1, _, by omega, rfl, rfl, (partA_step (j := 0) (z := true) (q := true) HA.out (by decide) (by rw [Int.ediv_one]; exact hz) hq), cbN hC _, belowN hb _⟩
                  case measure => simp [intOf]
          · cases hq : mayF c x y m 2
            · cases A
              · cases hz : (want / 2 % 2 == 0)
                · go_wp2_with fail
                  go_quiet (fail)
                  go_wp2
                  go_roundw
                  case rel => exact ⟨2, _, by omega, rfl, rfl, (partA_step (j := 1) (z := false) (q := false) HA.out (by decide) hz hq), cbN hC _, belowN hb _⟩
                  case measure => simp [intOf]
                · go_wp2_with fail
                  go_quiet (fail)
                  go_wp2
                  go_roundw
                  case rel => exact ⟨2, _, by omega, rfl, rfl, (partA_step (j := 1) (z := true) (q := false) HA.out (by decide) hz hq), cbN hC _, belowN hb _⟩
                  case measure => simp [intOf]
              · cases hz : (want / 2 % 2 == 0)
                · have hz2 : ((want / 2).tmod 2 == 0) = false := (by rw [Int.tmod_eq_emod_of_nonneg (by omega)]; exact hz)
                  go_wp2_with fail
                  go_region_held3 (fun W => W.cell? ⟨wA.heap.size, 0, none⟩ = some (.int .i64 c.real) ∧ W.cell? ⟨wA.heap.size, 1, none⟩ = some (.int .i64 c.acts) ∧ W.cell? ⟨wA.heap.size, 2, none⟩ = some (.int .i64 c.saved) ∧ W.cell? ⟨wA.heap.size, 3, none⟩ = some (.int .i64 c.groups)) (first | exact hC.facts.1 | exact HCF.facts.1) (first | (go_at_call 19; refine (iMayDo_any c x y m 2 _).mono ?_; rintro e wF ⟨rfl, hF⟩; have HCF : Cb wF wA.heap.size c.real c.acts c.saved c.groups := Cb.below (w := wr.drew) hC hF; have HBF := Lib.hid (hb.trans ((Below.refl _ wr).drew.trans (hF.mono hs)))))
                  go_wp2
                  go_roundw
                  case rel => exact ⟨2, _, by omega, rfl, rfl, (partA_step (j := 1) (z := false) (q := false) HA.out (by decide) hz hq), HCF, HBF.out⟩
                  case measure => simp [intOf]
                · have hz2 : ((want / 2).tmod 2 == 0) = true := (by rw [Int.tmod_eq_emod_of_nonneg (by omega)]; exact hz)
                  go_wp2_with fail
                  go_quiet (fail)
                  go_wp2
                  go_roundw
                  case rel => exact ⟨2, _, by omega, rfl, rfl, (partA_step (j := 1) (z := true) (q := false) HA.out (by decide) hz hq), cbN hC _, belowN hb _⟩
                  case measure => simp [intOf]
            · cases A
              · cases hz : (want / 2 % 2 == 0)
                · go_wp2_with fail
                  go_quiet (fail)
                  go_wp2
                  go_roundw
                  case rel => exact ⟨2, _, by omega, rfl, rfl, (partA_step (j := 1) (z := false) (q := true) HA.out (by decide) hz hq), cbN hC _, belowN hb _⟩
                  case measure => simp [intOf]
                · go_wp2_with fail
                  go_quiet (fail)
                  go_wp2
                  go_roundw
                  case rel => exact ⟨2, _, by omega, rfl, rfl, (partA_step (j := 1) (z := true) (q := true) HA.out (by decide) hz hq), cbN hC _, belowN hb _⟩
                  case measure => simp [intOf]
              · cases hz : (want / 2 % 2 == 0)
                · have hz2 : ((want / 2).tmod 2 == 0) = false := (by rw [Int.tmod_eq_emod_of_nonneg (by omega)]; exact hz)
                  go_wp2_with fail
                  go_region_held3 (fun W => W.cell? ⟨wA.heap.size, 0, none⟩ = some (.int .i64 c.real) ∧ W.cell? ⟨wA.heap.size, 1, none⟩ = some (.int .i64 c.acts) ∧ W.cell? ⟨wA.heap.size, 2, none⟩ = some (.int .i64 c.saved) ∧ W.cell? ⟨wA.heap.size, 3, none⟩ = some (.int .i64 c.groups)) (first | exact hC.facts.1 | exact HCF.facts.1) (first | (go_at_call 19; refine (iMayDo_any c x y m 2 _).mono ?_; rintro e wF ⟨rfl, hF⟩; have HCF : Cb wF wA.heap.size c.real c.acts c.saved c.groups := Cb.below (w := wr.drew) hC hF; have HBF := Lib.hid (hb.trans ((Below.refl _ wr).drew.trans (hF.mono hs)))))
                  go_wp2
                  go_roundw
                  case rel => exact ⟨2, _, by omega, rfl, rfl, (partA_step (j := 1) (z := false) (q := true) HA.out (by decide) hz hq), HCF, HBF.out⟩
                  case measure => simp [intOf]
                · have hz2 : ((want / 2).tmod 2 == 0) = true := (by rw [Int.tmod_eq_emod_of_nonneg (by omega)]; exact hz)
                  go_wp2_with fail
                  go_quiet (fail)
                  go_wp2
                  go_roundw
                  case rel => exact ⟨2, _, by omega, rfl, rfl, (partA_step (j := 1) (z := true) (q := true) HA.out (by decide) hz hq), cbN hC _, belowN hb _⟩
                  case measure => simp [intOf]
          · cases hq : mayF c x y m 4
            · cases A
              · cases hz : (want / 4 % 2 == 0)
                · go_wp2_with fail
                  go_quiet (fail)
                  go_wp2
                  go_roundw
                  case rel => exact ⟨3, _, by omega, rfl, rfl, (partA_step (j := 2) (z := false) (q := false) HA.out (by decide) hz hq), cbN hC _, belowN hb _⟩
                  case measure => simp [intOf]
                · go_wp2_with fail
                  go_quiet (fail)
                  go_wp2
                  go_roundw
                  case rel => exact ⟨3, _, by omega, rfl, rfl, (partA_step (j := 2) (z := true) (q := false) HA.out (by decide) hz hq), cbN hC _, belowN hb _⟩
                  case measure => simp [intOf]
              · cases hz : (want / 4 % 2 == 0)
                · have hz2 : ((want / 4).tmod 2 == 0) = false := (by rw [Int.tmod_eq_emod_of_nonneg (by omega)]; exact hz)
                  go_wp2_with fail
                  go_region_held3 (fun W => W.cell? ⟨wA.heap.size, 0, none⟩ = some (.int .i64 c.real) ∧ W.cell? ⟨wA.heap.size, 1, none⟩ = some (.int .i64 c.acts) ∧ W.cell? ⟨wA.heap.size, 2, none⟩ = some (.int .i64 c.saved) ∧ W.cell? ⟨wA.heap.size, 3, none⟩ = some (.int .i64 c.groups)) (first | exact hC.facts.1 | exact HCF.facts.1) (first | (go_at_call 19; refine (iMayDo_any c x y m 4 _).mono ?_; rintro e wF ⟨rfl, hF⟩; have HCF : Cb wF wA.heap.size c.real c.acts c.saved c.groups := Cb.below (w := wr.drew) hC hF; have HBF := Lib.hid (hb.trans ((Below.refl _ wr).drew.trans (hF.mono hs)))))
                  go_wp2
                  go_roundw
                  case rel => exact ⟨3, _, by omega, rfl, rfl, (partA_step (j := 2) (z := false) (q := false) HA.out (by decide) hz hq), HCF, HBF.out⟩
                  case measure => simp [intOf]
                · have hz2 : ((want / 4).tmod 2 == 0) = true := (by rw [Int.tmod_eq_emod_of_nonneg (by omega)]; exact hz)
                  go_wp2_with fail
                  go_quiet (fail)
                  go_wp2
                  go_roundw
                  case rel => exact ⟨3, _, by omega, rfl, rfl, (partA_step (j := 2) (z := true) (q := false) HA.out (by decide) hz hq), cbN hC _, belowN hb _⟩
                  case measure => simp [intOf]
            · cases A
              · cases hz : (want / 4 % 2 == 0)
                · go_wp2_with fail
                  go_quiet (fail)
                  go_wp2
                  go_roundw
                  case rel => exact ⟨3, _, by omega, rfl, rfl, (partA_step (j := 2) (z := false) (q := true) HA.out (by decide) hz hq), cbN hC _, belowN hb _⟩
                  case measure => simp [intOf]
                · go_wp2_with fail
                  go_quiet (fail)
                  go_wp2
                  go_roundw
                  case rel => exact ⟨3, _, by omega, rfl, rfl, (partA_step (j := 2) (z := true) (q := true) HA.out (by decide) hz hq), cbN hC _, belowN hb _⟩
                  case measure => simp [intOf]
              · cases hz : (want / 4 % 2 == 0)
                · have hz2 : ((want / 4).tmod 2 == 0) = false := (by rw [Int.tmod_eq_emod_of_nonneg (by omega)]; exact hz)
                  go_wp2_with fail
                  go_region_held3 (fun W => W.cell? ⟨wA.heap.size, 0, none⟩ = some (.int .i64 c.real) ∧ W.cell? ⟨wA.heap.size, 1, none⟩ = some (.int .i64 c.acts) ∧ W.cell? ⟨wA.heap.size, 2, none⟩ = some (.int .i64 c.saved) ∧ W.cell? ⟨wA.heap.size, 3, none⟩ = some (.int .i64 c.groups)) (first | exact hC.facts.1 | exact HCF.facts.1) (first | (go_at_call 19; refine (iMayDo_any c x y m 4 _).mono ?_; rintro e wF ⟨rfl, hF⟩; have HCF : Cb wF wA.heap.size c.real c.acts c.saved c.groups := Cb.below (w := wr.drew) hC hF; have HBF := Lib.hid (hb.trans ((Below.refl _ wr).drew.trans (hF.mono hs)))))
                  go_wp2
                  go_roundw
                  case rel => exact ⟨3, _, by omega, rfl, rfl, (partA_step (j := 2) (z := false) (q := true) HA.out (by decide) hz hq), HCF, HBF.out⟩
                  case measure => simp [intOf]
                · have hz2 : ((want / 4).tmod 2 == 0) = true := (by rw [Int.tmod_eq_emod_of_nonneg (by omega)]; exact hz)
                  go_wp2_with fail
                  go_quiet (fail)
                  go_wp2
                  go_roundw
                  case rel => exact ⟨3, _, by omega, rfl, rfl, (partA_step (j := 2) (z := true) (q := true) HA.out (by decide) hz hq), cbN hC _, belowN hb _⟩
                  case measure => simp [intOf]
          · have hok : (mayF c x y m want == A) = true := by rw [HA.out, ← Hall.out]; simp
            go_wp2_with fail
            refine (iMayDo_any c x y m 0 _).mono ?_; rintro e wG ⟨rfl, hG⟩
            rw [Hz.out]
            go_wp2
            go_ret
            exact ⟨rfl, hb.trans (hG.mono hs)⟩
      · have hf : mayF c x y m want = false := may_out (by
          cases hm1 : inR m 0 1023
          · simp
          · cases hw1 : inR want 0 7
            · simp
            · exact absurd ⟨inR_iff.1 hm1, inR_iff.1 hw1⟩ hin)
        rw [hf]
        have hcs : m < 0 ∨ (0 ≤ m ∧ 1023 < m) ∨ (0 ≤ m ∧ m ≤ 1023 ∧ want < 0) ∨ (0 ≤ m ∧ m ≤ 1023 ∧ 0 ≤ want ∧ 7 < want) := by omega
        clear hin hv
        rcases hcs with h1 | ⟨h1, h2⟩ | ⟨h1, h2, h3⟩ | ⟨h1, h2, h3, h4⟩
        all_goals
          go_wp2_with fail
          refine (iClassOf_any c _ _ _).mono ?_; rintro e wE ⟨rfl, hE⟩
          have HE := Lib.hid (HD.out.trans (hE.mono (by omega)))
          clear hE
          go_wp2_with (go_at_call 24; refine (alive_any _).mono ?_; rintro e w' ⟨rfl, rfl⟩)
          go_ret
          exact ⟨rfl, HE.out⟩

set_option maxRecDepth 100000 in
theorem lifted (os : Os) (started : os.Started) (H : Type) (enc : TypeId × Value → H) :
    ReturnsInHanded {} Try.checked os 6 .any (Rows.fnMayDoSpec.pre6 enc Try.prog Try.f6 Rows.fnMayDoRow.domain false) (Rows.fnMayDoSpec.post enc Try.prog Try.f6 false true false false) := by
  refine returnsInHanded_of_change (C := Try.checked) own started (by kernel_rfl) Try.func6
    (ChangeSpec.witness6 (enc := enc) (C := Try.checked) false ⟨#[], #[.slice none 0 0], []⟩ 8 (by kernel_rfl) (by kernel_rfl) (by kernel_rfl) (by kernel_rfl)) ?_
  intro W base args ds gs before hval0 hW hcnd _
  have hval : ∀ (j : Nat) t v, Try.f6.params[j]? = some t → args[j]? = some v → Value.okWide Try.prog W .any base t v := hval0
  have hW' := hW
  have hltb : ∀ x ∈ before, x.block < W.heap.size := fun x hx => hW.lt x hx
  obtain ⟨p, q, hA0, hV, rfl, hfz, hnd⟩ := hW
  have hA : DataW.TrodAll enc Try.prog W 0 (fun _ => true) true Try.f6.params.toList args.toList ds p := hA0
  have hlt : ∀ x ∈ p, x.block < W.heap.size := fun x hx => hltb x (List.mem_append_left _ hx)
  have hAll := hA
  rw [Try.params6] at hA hval
  obtain ⟨v0, vs0, d0, ds0, p0, q0, hargs, rfl, rfl, h0, r0⟩ := trodAll_cons hA
  obtain ⟨rfl, rfl, rfl⟩ := trodAll_nil r0
  obtain rfl : args = #[v0] := by cases args; simp_all
  obtain ⟨rfl, rfl⟩ := trodVars_none hV
  clear hA0 hval0
  have hlt0 : ∀ x ∈ p0, x.block < W.heap.size := fun x hx => hlt x (by simp [hx])
  have w0 := open_bytes (hval 0 33 v0 rfl rfl) h0 hlt0
  simp only [List.append_nil] at hW' hltb hAll
  refine (walk v0 W w0).mono fun e W' ⟨he, hg⟩ => ?_
  subst he
  exact ⟨_, rfl, post_of_below (pa := _) (pv := []) hW' (fun _ _ _ => (trodAll_cons_mk (shut_bool Try.underlying4 _) trodAll_mk0))
    (fun sp hsp => trodAll_stays laidOut hg (by kernel_rfl) hAll hltb sp hsp) (fun _ _ => rfl) (by simp) hg (ok_one (by kernel_rfl) rfl (okWide_bool_mk Try.underlying4 _))⟩

theorem over : Rows.fnMayDoRow.holds Try.pinned (OpenSpec.ofChange Rows.fnMayDoSpec) :=
  OpenClaim.holds_of_wide 6 Try.f6 rfl rfl rfl rfl rfl rfl rfl ⟨rfl, rfl, rfl, rfl, rfl⟩ rfl rfl rfl rfl rfl (by kernel_rfl) Try.func6 (by kernel_rfl)
    (of_decide_eq_true (by kernel_rfl)) (by unfold Func.isWrapper; first | (rw [if_pos (by decide +kernel)]; kernel_rfl) | (rw [if_neg (by decide +kernel)]; exact ⟨rfl, rfl⟩))
    (fun os started H enc _ => lifted os started H enc)

/-- The statement. -/
theorem proved : Rows.FnMayDoSaid :=
  over
#print axioms proved
end Go.Proofs.Ytifnjinkddelmaa.fnMayDo
