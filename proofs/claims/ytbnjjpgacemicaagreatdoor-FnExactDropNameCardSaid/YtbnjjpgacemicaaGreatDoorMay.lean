/-
  Contracts: MayDo and AllowedRights, the program's and the reference's.
  Conditions: none but where a contract names them.
-/
import Derived.Test.YtbnjjpgacemicaaGreatDoorMayP
import Derived.Test.YtbnjjpgacemicaaGreatDoorSmall
namespace Go.Proofs.YtbnjjpgacemicaaGreatDoor
open Go.ChangeShapes Go.WideShapes Go.ChangeAt Go.RowKit
set_option maxHeartbeats 2000000

theorem mayDo_any (c : Cr) (o g m want : Int) (w : World) (hm : inR m 0 1023 = true) (hw : inR want 0 7 = true) :
    Calls Tryz.prog 99 #[c.v, .int .i64 o, .int .i64 g, .int .i64 m, .int .i64 want] w fun e w' => e = .returned (.bool (mayB c o g m want)) ∧ Below w.heap.size w w' := by
  obtain ⟨w0, w1⟩ := inR_iff.1 hw
  have hcb := clsOf_bd c o g
  have hcr : inR (clsOf c o g) 0 2 = true := inR_yes hcb.1 hcb.2
  have hrb := rightsOf_bd m (clsOf c o g)
  have hsub := andNot_sub want _ w0 w1 hrb.1 hrb.2
  have Hroot := Lib.hid (root_sub (m := m) w0 w1 hcb)
  have Hm := Lib.hid hm
  have H0 := Lib.hid (show inR 0 0 2 = true from rfl)
  have H1 := Lib.hid (show inR 1 0 2 = true from rfl)
  have H2 := Lib.hid (show inR 2 0 2 = true from rfl)
  have Hcr := Lib.hid hcr
  have Hcs := Lib.hid hsub
  clear hm hw hcr hsub
  cases hs : subR want (rightsOf m (clsOf c o g))
  · have hq : (bits .andNot .i64 want (rightsOf m (clsOf c o g)) == 0) = false := by rw [Hcs.out]; exact hs
    have hab := anyOf_bd m
    have hw1 := i64_and1 want w0 (by omega)
    have ha1 := i64_and1 (anyOf m) hab.1 (by omega)
    cases ha : (c.acts == 0)
    · have Hf := Lib.hid (show mayB c o g m want = false by rw [mayB, if_neg (by simpa using ha)]; exact hs)
      go_enter Tryz.func99, Tryz.ntmps99
      go_wp2_with fail
      refine (clsOf_any c o g _).mono ?_; rintro e wA ⟨rfl, hA⟩; obtain ⟨hc, hf⟩ := bcell hA
      have HA := Lib.hid (((Below.refl w.heap.size w).alloc (Nat.le_refl _) c.o).trans (hA.mono (by simp)))
      clear hA
      go_wp2_with fail
      refine (rightsOf_any m _ _ Hm.out Hcr.out).mono ?_; rintro e w' ⟨rfl, rfl⟩
      go_wp2_with fail
      refine (rightsOf_any m 0 _ Hm.out H0.out).mono ?_; rintro e w' ⟨rfl, rfl⟩
      go_wp2_with fail
      refine (rightsOf_any m 1 _ Hm.out H1.out).mono ?_; rintro e w' ⟨rfl, rfl⟩
      go_wp2_with fail
      refine (rightsOf_any m 2 _ Hm.out H2.out).mono ?_; rintro e w' ⟨rfl, rfl⟩
      go_wp2
      go_ret
      exact ⟨by rw [Hf.out]; rfl, HA.out⟩
    · have hae : anyOf m = bits .or .i64 (bits .or .i64 (rightsOf m 0) (rightsOf m 1)) (rightsOf m 2) := rfl
      have Hae := Lib.hid hae
      cases hwz : (want % 2 == 0) <;> cases har : anyRun m
      all_goals
        have Hf := Lib.hid (show mayB c o g m want = _ by rw [mayB, if_pos (by simpa using ha), hwz, har])
        have hod : (bits .and .i64 (bits .or .i64 (bits .or .i64 (rightsOf m 0) (rightsOf m 1)) (rightsOf m 2)) 1 != 0) = anyRun m := by
          rw [← Hae.out, ha1, anyRun]
          rw [Bool.eq_iff_iff]; simp; omega
        rw [har] at hod
        have hae2 := Hae.out
        clear hae
        have ha2 : (c.acts == 0) = true := ha
        clear ha1 har hae2
        go_enter Tryz.func99, Tryz.ntmps99
        go_wp2_with fail
        refine (clsOf_any c o g _).mono ?_; rintro e wA ⟨rfl, hA⟩; obtain ⟨hc, hf⟩ := bcell hA
        have HA := Lib.hid (((Below.refl w.heap.size w).alloc (Nat.le_refl _) c.o).trans (hA.mono (by simp)))
        clear hA
        go_wp2_with fail
        refine (rightsOf_any m _ _ Hm.out Hcr.out).mono ?_; rintro e w' ⟨rfl, rfl⟩
        go_wp2_with fail
        refine (rightsOf_any m 0 _ Hm.out H0.out).mono ?_; rintro e w' ⟨rfl, rfl⟩
        go_wp2_with fail
        refine (rightsOf_any m 1 _ Hm.out H1.out).mono ?_; rintro e w' ⟨rfl, rfl⟩
        go_wp2_with fail
        refine (rightsOf_any m 2 _ Hm.out H2.out).mono ?_; rintro e w' ⟨rfl, rfl⟩
        go_wp2
        go_ret
        exact ⟨by rw [Hf.out]; rfl, HA.out⟩
  · have hq : (bits .andNot .i64 want (rightsOf m (clsOf c o g)) == 0) = true := by rw [Hcs.out]; exact hs
    have Hf := Lib.hid (show mayB c o g m want = true by
      rw [mayB]; split
      · exact Hroot.out hs
      · exact hs)
    go_enter Tryz.func99, Tryz.ntmps99
    go_wp2_with fail
    refine (clsOf_any c o g _).mono ?_; rintro e wA ⟨rfl, hA⟩; obtain ⟨hc, hf⟩ := bcell hA
    have HA := Lib.hid (((Below.refl w.heap.size w).alloc (Nat.le_refl _) c.o).trans (hA.mono (by simp)))
    clear hA
    go_wp2_with fail
    refine (rightsOf_any m _ _ Hm.out Hcr.out).mono ?_; rintro e w' ⟨rfl, rfl⟩
    go_wp2
    go_ret
    exact ⟨by rw [Hf.out]; rfl, HA.out⟩
theorem rightsFor_of {m k : Int} (hm : inR m 0 1023 = true) (hk : inR k 0 2 = true) : rightsFor m k = rightsOf m k := by
  rw [rightsFor, if_pos (by rw [hm, hk]; rfl)]
theorem sMayDo_any (c : Cr) (o g m want : Int) (w : World) :
    Calls Tryz.prog 98 #[c.v, .int .i64 o, .int .i64 g, .int .i64 m, .int .i64 want] w fun e w' => e = .returned (.bool (mayF c o g m want)) ∧ Below w.heap.size w w' := by
  cases hv : (c.ok && inR o 0 99 && inR g 0 7)
  · have Hcl := Lib.hid (show classOf c o g = -1 by rw [classOf, if_neg (by simp [hv])])
    have Hf := Lib.hid (show mayF c o g m want = false by rw [mayF, hv]; rfl)
    go_enter Tryz.func98, Tryz.ntmps98
    go_wp2_with fail
    refine (sClassOf_any c o g _).mono ?_; rintro e wA ⟨rfl, hA⟩
    have HA := Lib.hid (((Below.refl w.heap.size w).alloc (Nat.le_refl _) c.o).trans (hA.mono (by simp)))
    clear hA
    rw [Hcl.out]
    go_wp2
    go_ret
    exact ⟨by rw [Hf.out]; rfl, HA.out⟩
  · have Hcl := Lib.hid (show classOf c o g = clsOf c o g by rw [classOf, if_pos hv])
    have hcb := clsOf_bd c o g
    cases hm : inR m 0 1023 <;> cases hw : inR want 0 7
    case true.true =>
      obtain ⟨w0, w1⟩ := inR_iff.1 hw
      have hab := anyOf_bd m
      have hae : anyOf m = bits .or .i64 (bits .or .i64 (rightsOf m 0) (rightsOf m 1)) (rightsOf m 2) := rfl
      have Hae := Lib.hid hae
      clear hae
      have H0 := Lib.hid (rightsFor_of (k := 0) hm rfl)
      have H1 := Lib.hid (rightsFor_of (k := 1) hm rfl)
      have H2 := Lib.hid (rightsFor_of (k := 2) hm rfl)
      have Hk := Lib.hid (rightsFor_of (k := clsOf c o g) hm (inR_yes hcb.1 hcb.2))
      have hod := Lib.hid (show (bits .or .i64 (bits .or .i64 (rightsOf m 0) (rightsOf m 1)) (rightsOf m 2) % 2 == 1) = anyRun m by rw [← Hae.out]; rfl)
      have hor := (or3 _ _ _ (rightsOf_bd m 0) (rightsOf_bd m 1) (rightsOf_bd m 2)).2.1
      cases ha : (c.acts == 0)
      · have Hf := Lib.hid (show mayF c o g m want = subR want (rightsOf m (clsOf c o g)) by
          rw [mayF, hv, hm, hw, mayB, if_neg (by simpa using ha)]; rfl)
        go_enter Tryz.func98, Tryz.ntmps98
        go_wp2_with fail
        refine (sClassOf_any c o g _).mono ?_; rintro e wA ⟨rfl, hA⟩; obtain ⟨hc, hf⟩ := bcell hA
        have HA := Lib.hid (((Below.refl w.heap.size w).alloc (Nat.le_refl _) c.o).trans (hA.mono (by simp)))
        clear hA
        rw [Hcl.out]
        go_wp2_with (go_at_call 46; refine (l1In_any _ _ _ _).mono ?_; rintro e w' ⟨rfl, rfl⟩)
        refine (sRightsFor_any _ _ _).mono ?_; rintro e w' ⟨rfl, rfl⟩
        rw [Hk.out]
        go_wp2
        go_ret
        exact ⟨by rw [Hf.out]; rfl, HA.out⟩
      · cases hwz : (want % 2 == 0) <;> cases har : anyRun m
        all_goals
          have Hf := Lib.hid (show mayF c o g m want = _ by rw [mayF, hv, hm, hw, mayB, if_pos (by simpa using ha), hwz, har])
          have hod2 := hod.out
          rw [har] at hod2
          clear hod har
          have ha2 : (c.acts == 0) = true := ha
          go_enter Tryz.func98, Tryz.ntmps98
          go_wp2_with fail
          refine (sClassOf_any c o g _).mono ?_; rintro e wA ⟨rfl, hA⟩; obtain ⟨hc, hf⟩ := bcell hA
          have HA := Lib.hid (((Below.refl w.heap.size w).alloc (Nat.le_refl _) c.o).trans (hA.mono (by simp)))
          clear hA
          rw [Hcl.out]
          go_wp2_with (go_at_call 46; refine (l1In_any _ _ _ _).mono ?_; rintro e w' ⟨rfl, rfl⟩)
          refine (sRightsFor_any _ _ _).mono ?_; rintro e w' ⟨rfl, rfl⟩
          rw [H0.out]
          go_wp2_with fail
          refine (sRightsFor_any _ _ _).mono ?_; rintro e w' ⟨rfl, rfl⟩
          rw [H1.out]
          go_wp2_with fail
          refine (sRightsFor_any _ _ _).mono ?_; rintro e w' ⟨rfl, rfl⟩
          rw [H2.out]
          go_wp2
          go_ret
          exact ⟨by rw [Hf.out]; rfl, HA.out⟩
    all_goals
      have Hf := Lib.hid (show mayF c o g m want = false by rw [mayF, hv, hm, hw]; rfl)
      go_enter Tryz.func98, Tryz.ntmps98
      go_wp2_with fail
      refine (sClassOf_any c o g _).mono ?_; rintro e wA ⟨rfl, hA⟩
      have HA := Lib.hid (((Below.refl w.heap.size w).alloc (Nat.le_refl _) c.o).trans (hA.mono (by simp)))
      clear hA
      rw [Hcl.out]
      go_wp2_with (go_at_call 46; refine (l1In_any _ _ _ _).mono ?_; rintro e w' ⟨rfl, rfl⟩)
      go_ret
      exact ⟨by rw [Hf.out]; rfl, HA.out⟩
end Go.Proofs.YtbnjjpgacemicaaGreatDoor
