/-
  The rights of all three classes make the mode, but for the sticky bit.
  Conditions: none.
-/
import Derived.Test.YtbiaamipfhgfeaaDraws
import Derived.Test.YtbiaamipfhgfeaaAlive
namespace Go.Proofs.Ytbiaamipfhgfeaa.fnRightsFor
open Go.ChangeShapes Go.WideShapes Go.ChangeAt Go.RowKit
open Go.ChangeMaps (open_string)
set_option linter.unusedVariables false
set_option maxHeartbeats 4000000 in
theorem walk (v0 : Value) (w : World) (w0 : CodeAt w v0) :
    Calls Try.prog 7 #[v0] w fun e w' => e = .returned (.bool true) ∧ Below w.heap.size w w' := by
  obtain ⟨ad, len, cap, bs, rfl, hlc, hcm, hbl, hbd, hcell⟩ := w0
  have h0 : CodeAt w (.slice ad len cap) := ⟨ad, len, cap, bs, rfl, hlc, hcm, hbl, hbd, hcell⟩
  unfold maxLen at hcm
  clear hbl hbd hcell
  by_cases hbig : 1048576 < len
  · clear h0
    go_enter Try.func7, Try.ntmps7
    go_wp2
    go_ret
    exact ⟨rfl, Below.refl _ _⟩
  · go_enter Try.func7, Try.ntmps7
    go_wp2_with fail
    refine (dRightsFor_any _ _ h0).mono ?_; rintro e wA ⟨m, k, rfl, hm, hk, hA⟩
    have HA := Lib.hid hA
    clear hA h0
    by_cases hin : 0 ≤ m ∧ m ≤ 1023
    · obtain ⟨h1, h2⟩ := hin
      have e0 : rightsFor m 0 = m / 64 % 8 := by rw [rightsFor, if_pos (by rw [inR_yes h1 h2]; rfl)]; simp [rightsOf]
      have e1 : rightsFor m 1 = m / 8 % 8 := by rw [rightsFor, if_pos (by rw [inR_yes h1 h2]; rfl)]; simp [rightsOf]
      have e2 : rightsFor m 2 = m % 8 := by rw [rightsFor, if_pos (by rw [inR_yes h1 h2]; rfl)]; simp [rightsOf]
      have hle : rightsFor m k ≤ 7 := by
        unfold rightsFor; split
        · exact (rightsOf_bd m k).2
        · omega
      have hsum : (m / 64 % 8 * 64 + m / 8 % 8 * 8 + m % 8 == m % 512) = true := by simp; omega
      go_wp2_with fail
      refine (iRightsFor_any _ _ _).mono ?_; rintro e w' ⟨rfl, rfl⟩
      go_wp2_with fail
      refine (sRightsFor_any _ _ _).mono ?_; rintro e w' ⟨rfl, rfl⟩
      go_wp2_with fail
      refine (iRightsFor_any _ _ _).mono ?_; rintro e w' ⟨rfl, rfl⟩
      rw [e0]
      go_wp2_with fail
      refine (iRightsFor_any _ _ _).mono ?_; rintro e w' ⟨rfl, rfl⟩
      rw [e1]
      go_wp2_with fail
      refine (iRightsFor_any _ _ _).mono ?_; rintro e w' ⟨rfl, rfl⟩
      rw [e2]
      go_wp2
      go_ret
      exact ⟨rfl, HA.out⟩
    · have hr : rightsFor m k = -1 := by simp [rightsFor, inR_not.2 (show m < 0 ∨ 1023 < m by omega)]
      by_cases hm0 : m < 0
      all_goals
        go_wp2_with fail
        refine (iRightsFor_any _ _ _).mono ?_; rintro e w' ⟨rfl, rfl⟩
        rw [hr]
        go_wp2_with fail
        refine (sRightsFor_any _ _ _).mono ?_; rintro e w' ⟨rfl, rfl⟩
        rw [hr]
        go_wp2_with (go_at_call 18; refine (alive_any _).mono ?_; rintro e w' ⟨rfl, rfl⟩)
        go_ret
        exact ⟨rfl, HA.out⟩

set_option maxRecDepth 100000 in
theorem lifted (os : Os) (started : os.Started) (H : Type) (enc : TypeId × Value → H) :
    ReturnsInHanded {} Try.checked os 7 .any (Rows.fnRightsForSpec.pre6 enc Try.prog Try.f7 Rows.fnRightsForRow.domain false) (Rows.fnRightsForSpec.post enc Try.prog Try.f7 false true false false) := by
  refine returnsInHanded_of_change (C := Try.checked) own started (by kernel_rfl) Try.func7
    (ChangeSpec.witness6 (enc := enc) (C := Try.checked) false ⟨#[], #[.slice none 0 0], []⟩ 8 (by kernel_rfl) (by kernel_rfl) (by kernel_rfl) (by kernel_rfl)) ?_
  intro W base args ds gs before hval0 hW hcnd _
  have hval : ∀ (j : Nat) t v, Try.f7.params[j]? = some t → args[j]? = some v → Value.okWide Try.prog W .any base t v := hval0
  have hW' := hW
  have hltb : ∀ x ∈ before, x.block < W.heap.size := fun x hx => hW.lt x hx
  obtain ⟨p, q, hA0, hV, rfl, hfz, hnd⟩ := hW
  have hA : DataW.TrodAll enc Try.prog W 0 (fun _ => true) true Try.f7.params.toList args.toList ds p := hA0
  have hlt : ∀ x ∈ p, x.block < W.heap.size := fun x hx => hltb x (List.mem_append_left _ hx)
  have hAll := hA
  rw [Try.params7] at hA hval
  obtain ⟨v0, vs0, d0, ds0, p0, q0, hargs, rfl, rfl, h0, r0⟩ := trodAll_cons hA
  obtain ⟨rfl, rfl, rfl⟩ := trodAll_nil r0
  obtain rfl : args = #[v0] := by cases args; simp_all
  obtain ⟨rfl, rfl⟩ := trodVars_none hV
  clear hA0 hval0
  have hlt0 : ∀ x ∈ p0, x.block < W.heap.size := fun x hx => hlt x (by simp [hx])
  have w0 := open_bytes (hval 0 22 v0 rfl rfl) h0 hlt0
  simp only [List.append_nil] at hW' hltb hAll
  refine (walk v0 W w0).mono fun e W' ⟨he, hg⟩ => ?_
  subst he
  exact ⟨_, rfl, post_of_below (pa := _) (pv := []) hW' (fun _ _ _ => (trodAll_cons_mk (shut_bool Try.underlying4 _) trodAll_mk0))
    (fun sp hsp => trodAll_stays laidOut hg (by kernel_rfl) hAll hltb sp hsp) (fun _ _ => rfl) (by simp) hg (ok_one (by kernel_rfl) rfl (okWide_bool_mk Try.underlying4 _))⟩

theorem over : Rows.fnRightsForRow.holds Try.pinned (OpenSpec.ofChange Rows.fnRightsForSpec) :=
  OpenClaim.holds_of_wide 7 Try.f7 rfl rfl rfl rfl rfl rfl rfl ⟨rfl, rfl, rfl, rfl, rfl⟩ rfl rfl rfl rfl rfl (by kernel_rfl) Try.func7 (by kernel_rfl)
    (of_decide_eq_true (by kernel_rfl)) (by unfold Func.isWrapper; first | (rw [if_pos (by decide +kernel)]; kernel_rfl) | (rw [if_neg (by decide +kernel)]; exact ⟨rfl, rfl⟩))
    (fun os started H enc _ => lifted os started H enc)

/-- The statement. -/
theorem proved : Rows.FnRightsForSaid :=
  over
#print axioms proved
end Go.Proofs.Ytbiaamipfhgfeaa.fnRightsFor
