/-
  ReadMode of the text of a mode returns the mode.
  Conditions: none.
-/
import Derived.Test.YtbiaamipfhgfeaaDraws
import Derived.Test.YtbiaamipfhgfeaaAlive
import Derived.Test.YtbiaamipfhgfeaaRead
namespace Go.Proofs.Ytbiaamipfhgfeaa.fnModeText
open Go.ChangeShapes Go.WideShapes Go.ChangeAt Go.RowKit
open Go.ChangeMaps (open_string)
set_option linter.unusedVariables false
set_option maxHeartbeats 4000000 in
theorem walk (v0 : Value) (w : World) (w0 : CodeAt w v0) :
    Calls Try.prog 11 #[v0] w fun e w' => e = .returned (.bool true) ∧ Below w.heap.size w w' := by
  obtain ⟨ad, len, cap, bs, rfl, hlc, hcm, hbl, hbd, hcell⟩ := w0
  have h0 : CodeAt w (.slice ad len cap) := ⟨ad, len, cap, bs, rfl, hlc, hcm, hbl, hbd, hcell⟩
  unfold maxLen at hcm
  clear hbl hbd hcell
  by_cases hbig : 1048576 < len
  · clear h0
    go_enter Try.func11, Try.ntmps11
    go_wp2
    go_ret
    exact ⟨rfl, Below.refl _ _⟩
  · go_enter Try.func11, Try.ntmps11
    go_wp2_with fail
    refine (dModeText_any _ _ h0).mono ?_; rintro e wA ⟨m, rfl, m0, m1, hA⟩
    have hA0 := hA.size
    have HA := Lib.hid hA
    clear hA h0
    cases hin : inR m 0 1023
    · have hout := inR_not.1 hin
      have hm := modeT_out hin
      have Hm := Lib.hid hm
      clear hm
      by_cases hm0 : m < 0
      all_goals
        go_wp2_with fail
        refine (iModeText_any _ _).mono ?_; rintro e wB ⟨rfl, hB⟩
        have HB := Lib.hid (HA.out.trans (hB.mono hA0))
        clear hB
        rw [Hm.out]
        go_wp2_with fail
        refine (sModeText_any _ _).mono ?_; rintro e w' ⟨rfl, rfl⟩
        rw [Hm.out]
        go_wp2_with (go_at_call 18; refine (alive_any _).mono ?_; rintro e w' ⟨rfl, rfl⟩)
        go_ret
        exact ⟨ret_bool (by simp <;> omega), HB.out⟩
    · have hne : ¬ (modeT m).toList = [] := by
        intro h
        have := congrArg List.length h
        rw [modeT_in hin, ByteArray.toList_eq] at this
        simp [modeL, modeP] at this
      have hne' : (modeT m).toList.isEmpty = false := by
        cases hq : (modeT m).toList with
        | nil => exact absurd hq hne
        | cons a b => rfl
      have hr := read_mode hin
      have Hr := Lib.hid hr
      have hsz : (modeT m).size ≤ maxLen := by have := modeT_size m; unfold maxLen; omega
      clear hr
      go_wp2_with fail
      refine (iModeText_any _ _).mono ?_; rintro e wB ⟨rfl, hB⟩
      have hs2 : w.heap.size ≤ wB.heap.size := Nat.le_trans hA0 hB.size
      have HB := Lib.hid (HA.out.trans (hB.mono hA0))
      clear hB
      go_wp2_with fail
      refine (sModeText_any _ _).mono ?_; rintro e w' ⟨rfl, rfl⟩
      go_wp2_with fail
      refine (iReadMode_any _ _ hsz).mono ?_; rintro e wC ⟨rfl, hC⟩
      have HC := Lib.hid (HB.out.trans (hC.mono hs2))
      clear hC
      rw [Hr.out.1, Hr.out.2]
      go_wp2
      go_ret
      exact ⟨rfl, HC.out⟩

set_option maxRecDepth 100000 in
theorem lifted (os : Os) (started : os.Started) (H : Type) (enc : TypeId × Value → H) :
    ReturnsInHanded {} Try.checked os 11 .any (Rows.fnModeTextSpec.pre6 enc Try.prog Try.f11 Rows.fnModeTextRow.domain false) (Rows.fnModeTextSpec.post enc Try.prog Try.f11 false true false false) := by
  refine returnsInHanded_of_change (C := Try.checked) own started (by kernel_rfl) Try.func11
    (ChangeSpec.witness6 (enc := enc) (C := Try.checked) false ⟨#[], #[.slice none 0 0], []⟩ 8 (by kernel_rfl) (by kernel_rfl) (by kernel_rfl) (by kernel_rfl)) ?_
  intro W base args ds gs before hval0 hW hcnd _
  have hval : ∀ (j : Nat) t v, Try.f11.params[j]? = some t → args[j]? = some v → Value.okWide Try.prog W .any base t v := hval0
  have hW' := hW
  have hltb : ∀ x ∈ before, x.block < W.heap.size := fun x hx => hW.lt x hx
  obtain ⟨p, q, hA0, hV, rfl, hfz, hnd⟩ := hW
  have hA : DataW.TrodAll enc Try.prog W 0 (fun _ => true) true Try.f11.params.toList args.toList ds p := hA0
  have hlt : ∀ x ∈ p, x.block < W.heap.size := fun x hx => hltb x (List.mem_append_left _ hx)
  have hAll := hA
  rw [Try.params11] at hA hval
  obtain ⟨v0, vs0, d0, ds0, p0, q0, hargs, rfl, rfl, h0, r0⟩ := trodAll_cons hA
  obtain ⟨rfl, rfl, rfl⟩ := trodAll_nil r0
  obtain rfl : args = #[v0] := by cases args; simp_all
  obtain ⟨rfl, rfl⟩ := trodVars_none hV
  clear hA0 hval0
  have hlt0 : ∀ x ∈ p0, x.block < W.heap.size := fun x hx => hlt x (by simp [hx])
  have w0 := open_bytes (hval 0 22 v0 rfl rfl) h0 hlt0
  simp only [List.append_nil] at hW' hltb hAll
  refine (walk v0 W w0).mono fun e W' ⟨he, hg⟩ => ?_
  subst he
  exact ⟨_, rfl, post_of_below (pa := _) (pv := []) hW' (fun _ _ _ => (trodAll_cons_mk (shut_bool Try.underlying4 _) trodAll_mk0))
    (fun sp hsp => trodAll_stays laidOut hg (by kernel_rfl) hAll hltb sp hsp) (fun _ _ => rfl) (by simp) hg (ok_one (by kernel_rfl) rfl (okWide_bool_mk Try.underlying4 _))⟩

theorem over : Rows.fnModeTextRow.holds Try.pinned (OpenSpec.ofChange Rows.fnModeTextSpec) :=
  OpenClaim.holds_of_wide 11 Try.f11 rfl rfl rfl rfl rfl rfl rfl ⟨rfl, rfl, rfl, rfl, rfl⟩ rfl rfl rfl rfl rfl (by kernel_rfl) Try.func11 (by kernel_rfl)
    (of_decide_eq_true (by kernel_rfl)) (by unfold Func.isWrapper; first | (rw [if_pos (by decide +kernel)]; kernel_rfl) | (rw [if_neg (by decide +kernel)]; exact ⟨rfl, rfl⟩))
    (fun os started H enc _ => lifted os started H enc)

/-- The statement. -/
theorem proved : Rows.FnModeTextSaid :=
  over
#print axioms proved
end Go.Proofs.Ytbiaamipfhgfeaa.fnModeText
