/-
  All allowed rights together are allowed, and no other one is.
  Conditions: none.
-/
import Derived.Test.YtifnjinkddelmaaDraws2
import Derived.Test.YtifnjinkddelmaaAlive
import Derived.Test.YtifnjinkddelmaaAllowed
namespace Go.Proofs.Ytifnjinkddelmaa.fnAllowedRights
open Go.ChangeShapes Go.WideShapes Go.ChangeAt Go.RowKit
open Go.ChangeMaps (open_string)
set_option linter.unusedVariables false
set_option maxHeartbeats 4000000 in
theorem walk (v0 : Value) (w : World) (w0 : CodeAt w v0) :
    Calls Try.prog 7 #[v0] w fun e w' => e = .returned (.bool true) ∧ Below w.heap.size w w' := by
  obtain ⟨ad, len, cap, bs, rfl, hlc, hcm, hbl, hbd, hcell⟩ := w0
  have h0 : CodeAt w (.slice ad len cap) := ⟨ad, len, cap, bs, rfl, hlc, hcm, hbl, hbd, hcell⟩
  unfold maxLen at hcm
  clear hbl hbd hcell
  by_cases hbig : 1048576 < len
  · clear h0
    go_enter Try.func7, Try.ntmps7
    go_wp2
    go_ret
    exact ⟨rfl, Below.refl _ _⟩
  · go_enter Try.func7, Try.ntmps7
    go_wp2_with fail
    refine (dAllowed_any _ _ h0).mono ?_; rintro e wA ⟨c, x, y, m, rfl, hsm, hx, hy, hm, hA⟩
    have HA := Lib.hid (((Below.refl _ _).trans hA).alloc hA.size c.o)
    have hs0 : w.heap.size ≤ wA.heap.size := hA.size
    have HC := Lib.hid (Cb.new wA c.real c.acts c.saved c.groups)
    clear hA h0
    go_wp2_with fail
    refine (iAllowed_any c _ _ _ _).mono ?_; rintro e wB ⟨rfl, hB⟩
    have HC1 := Lib.hid (HC.out.below hB)
    have HB := Lib.hid (HA.out.trans (hB.mono (by simp; omega)))
    have hsB : wA.heap.size < wB.heap.size := Nat.lt_of_lt_of_le (by simp) hB.size
    obtain ⟨⟨k0, k1, k2, k3⟩, kf⟩ := HC1.out.facts
    clear hB
    go_wp2_with fail
    refine (sAllowed_any c _ _ _ _).mono ?_; rintro e wD ⟨rfl, hD⟩
    have HC2 := Lib.hid (HC1.out.below hD)
    have HD := Lib.hid (HB.out.trans (hD.mono (by omega)))
    have hsD : wA.heap.size < wD.heap.size := Nat.lt_of_lt_of_le hsB hD.size
    clear k0 k1 k2 k3 kf hD
    cases hv : (c.ok && inR x 0 99 && inR y 0 7 && inR m 0 1023)
    · have hn := allow_out hv
      rw [hn]
      go_wp2_with (go_at_call 24; refine (alive_any _).mono ?_; rintro e w' ⟨rfl, rfl⟩)
      go_ret
      exact ⟨rfl, HD.out⟩
    · have hbd := allow_bd hv
      have Hex := Lib.hid (allow_exact hv)
      generalize allowF c x y m = n at *
      obtain ⟨n0, n1⟩ := hbd
      have Hv := Lib.hid hv
      clear hv
      go_wp2_with fail
      go_loopw [8] (fun k wr => ∃ j : Nat, j ≤ 8 ∧ k = .int .i64 j ∧ Cb wr wA.heap.size c.real c.acts c.saved c.groups ∧ Below w.heap.size w wr) (fun k _ => (8 - intOf k).toNat)
      case atStart => exact ⟨0, by omega, rfl, HC2.out, HD.out⟩
      case round =>
        obtain ⟨j, hj, rfl, hC, hb⟩ := hrel
        by_cases hlt : j < 8
        · have hs : w.heap.size ≤ wr.heap.size := hb.size
          have He := Lib.hid (Hex.out (j : Int) (by omega) (by omega))
          obtain ⟨⟨k0, k1, k2, k3⟩, kf⟩ := hC.facts
          cases hq : mayF c x y m (j : Int)
          all_goals
            have hq2 : (bits .and .i64 (j : Int) n == (j : Int)) = _ := He.out.symm.trans hq
            go_wp2_with fail
            refine (iMayDo_any c x y m (j : Int) _).mono ?_; rintro e wE ⟨rfl, hE⟩
            have HE := Lib.hid (hb.trans (hE.mono hs))
            have HCE := Lib.hid (hC.below hE)
            clear hE
            rw [hq]
            go_wp2
            go_roundw
            case rel => exact ⟨j + 1, by omega, by go_num, HCE.out, HE.out⟩
            case measure => simp [intOf]; omega
        · go_wp2
          go_ret
          exact ⟨rfl, hb⟩

set_option maxRecDepth 100000 in
theorem lifted (os : Os) (started : os.Started) (H : Type) (enc : TypeId × Value → H) :
    ReturnsInHanded {} Try.checked os 7 .any (Rows.fnAllowedRightsSpec.pre6 enc Try.prog Try.f7 Rows.fnAllowedRightsRow.domain false) (Rows.fnAllowedRightsSpec.post enc Try.prog Try.f7 false true false false) := by
  refine returnsInHanded_of_change (C := Try.checked) own started (by kernel_rfl) Try.func7
    (ChangeSpec.witness6 (enc := enc) (C := Try.checked) false ⟨#[], #[.slice none 0 0], []⟩ 8 (by kernel_rfl) (by kernel_rfl) (by kernel_rfl) (by kernel_rfl)) ?_
  intro W base args ds gs before hval0 hW hcnd _
  have hval : ∀ (j : Nat) t v, Try.f7.params[j]? = some t → args[j]? = some v → Value.okWide Try.prog W .any base t v := hval0
  have hW' := hW
  have hltb : ∀ x ∈ before, x.block < W.heap.size := fun x hx => hW.lt x hx
  obtain ⟨p, q, hA0, hV, rfl, hfz, hnd⟩ := hW
  have hA : DataW.TrodAll enc Try.prog W 0 (fun _ => true) true Try.f7.params.toList args.toList ds p := hA0
  have hlt : ∀ x ∈ p, x.block < W.heap.size := fun x hx => hltb x (List.mem_append_left _ hx)
  have hAll := hA
  rw [Try.params7] at hA hval
  obtain ⟨v0, vs0, d0, ds0, p0, q0, hargs, rfl, rfl, h0, r0⟩ := trodAll_cons hA
  obtain ⟨rfl, rfl, rfl⟩ := trodAll_nil r0
  obtain rfl : args = #[v0] := by cases args; simp_all
  obtain ⟨rfl, rfl⟩ := trodVars_none hV
  clear hA0 hval0
  have hlt0 : ∀ x ∈ p0, x.block < W.heap.size := fun x hx => hlt x (by simp [hx])
  have w0 := open_bytes (hval 0 33 v0 rfl rfl) h0 hlt0
  simp only [List.append_nil] at hW' hltb hAll
  refine (walk v0 W w0).mono fun e W' ⟨he, hg⟩ => ?_
  subst he
  exact ⟨_, rfl, post_of_below (pa := _) (pv := []) hW' (fun _ _ _ => (trodAll_cons_mk (shut_bool Try.underlying4 _) trodAll_mk0))
    (fun sp hsp => trodAll_stays laidOut hg (by kernel_rfl) hAll hltb sp hsp) (fun _ _ => rfl) (by simp) hg (ok_one (by kernel_rfl) rfl (okWide_bool_mk Try.underlying4 _))⟩

theorem over : Rows.fnAllowedRightsRow.holds Try.pinned (OpenSpec.ofChange Rows.fnAllowedRightsSpec) :=
  OpenClaim.holds_of_wide 7 Try.f7 rfl rfl rfl rfl rfl rfl rfl ⟨rfl, rfl, rfl, rfl, rfl⟩ rfl rfl rfl rfl rfl (by kernel_rfl) Try.func7 (by kernel_rfl)
    (of_decide_eq_true (by kernel_rfl)) (by unfold Func.isWrapper; first | (rw [if_pos (by decide +kernel)]; kernel_rfl) | (rw [if_neg (by decide +kernel)]; exact ⟨rfl, rfl⟩))
    (fun os started H enc _ => lifted os started H enc)

/-- The statement. -/
theorem proved : Rows.FnAllowedRightsSaid :=
  over
#print axioms proved
end Go.Proofs.Ytifnjinkddelmaa.fnAllowedRights
