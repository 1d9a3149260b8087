/-
  The class is 0 exactly for the owner; without groups it is not 1.
  Conditions: none.
-/
import Derived.Test.YtbiaamipfhgfeaaDraws2
import Derived.Test.YtbiaamipfhgfeaaAlive
namespace Go.Proofs.Ytbiaamipfhgfeaa.fnClassOf
open Go.ChangeShapes Go.WideShapes Go.ChangeAt Go.RowKit
open Go.ChangeMaps (open_string)
set_option linter.unusedVariables false
set_option maxHeartbeats 4000000 in
theorem walk (v0 : Value) (w : World) (w0 : CodeAt w v0) :
    Calls Try.prog 13 #[v0] w fun e w' => e = .returned (.bool true) ∧ Below w.heap.size w w' := by
  obtain ⟨ad, len, cap, bs, rfl, hlc, hcm, hbl, hbd, hcell⟩ := w0
  have h0 : CodeAt w (.slice ad len cap) := ⟨ad, len, cap, bs, rfl, hlc, hcm, hbl, hbd, hcell⟩
  unfold maxLen at hcm
  clear hbl hbd hcell
  by_cases hbig : 1048576 < len
  · clear h0
    go_enter Try.func13, Try.ntmps13
    go_wp2
    go_ret
    exact ⟨rfl, Below.refl _ _⟩
  · go_enter Try.func13, Try.ntmps13
    go_wp2_with fail
    refine (dClassOf_any _ _ h0).mono ?_; rintro e wA ⟨c, x, y, rfl, hsm, hx, hy, hA⟩
    have HA := Lib.hid (((Below.refl _ _).trans hA).alloc hA.size c.o)
    have hs0 : w.heap.size ≤ wA.heap.size := hA.size
    have HC := Lib.hid (Cb.new wA c.real c.acts c.saved c.groups)
    clear hA h0
    go_wp2_with fail
    refine (iClassOf_any c _ _ _).mono ?_; rintro e wB ⟨rfl, hB⟩
    have HC1 := Lib.hid (HC.out.below hB)
    have HB := Lib.hid (HA.out.trans (hB.mono (by simp; omega)))
    have hsB : wA.heap.size < wB.heap.size := Nat.lt_of_lt_of_le (by simp) hB.size
    obtain ⟨⟨k0, k1, k2, k3⟩, kf⟩ := HC1.out.facts
    clear hB
    go_wp2_with fail
    refine (sClassOf_any c _ _ _).mono ?_; rintro e wD ⟨rfl, hD⟩
    have HC2 := Lib.hid (HC1.out.below hD)
    have HD := Lib.hid (HB.out.trans (hD.mono (by omega)))
    have hsD : wA.heap.size < wD.heap.size := Nat.lt_of_lt_of_le hsB hD.size
    clear k0 k1 k2 k3 kf hD
    obtain ⟨⟨k0, k1, k2, k3⟩, kf⟩ := HC2.out.facts
    by_cases hn : classOf c x y < 0
    · have hn1 : classOf c x y = -1 := by
        have hb := clsOf_bd c x y
        unfold classOf at hn ⊢
        split <;> simp_all <;> omega
      rw [hn1]
      go_wp2_with (go_at_call 18; refine (alive_any _).mono ?_; rintro e w' ⟨rfl, rfl⟩)
      go_ret
      exact ⟨rfl, HD.out⟩
    · have hcls : classOf c x y = clsOf c x y ∧ c.ok = true ∧ inR x 0 99 = true ∧ inR y 0 7 = true := by
        unfold classOf at hn ⊢
        split at hn
        · rename_i h; simp only [Bool.and_eq_true] at h; rw [if_pos (by simp [h])]; exact ⟨rfl, h.1.1, h.1.2, h.2⟩
        · omega
      obtain ⟨h1, h2, h3, h4⟩ := hcls
      have hbd := clsOf_bd c x y
      have hz : (classOf c x y == 0) = (c.acts == x) := by
        rw [h1, clsOf]
        by_cases h : c.acts = x
        · simp [h]
        · rw [if_neg h]; split <;> simp [h]
      have hal : (classOf ⟨c.real, c.acts, c.saved, 0⟩ x y != 1) = true := by
        have : classOf ⟨c.real, c.acts, c.saved, 0⟩ x y ≠ 1 := by
          have hg : hasG 0 y = false := by simp [hasG]
          unfold classOf clsOf
          simp only [hg]
          split
          · split <;> simp
          · simp
        simpa using this
      have hn0 : 0 ≤ classOf c x y := by omega
      have Hz := Lib.hid hz
      clear hz h1 h2 h3 h4 hbd hn
      generalize classOf c x y = n at *
      go_wp2_with fail
      refine (iClassOf_any ⟨c.real, c.acts, c.saved, 0⟩ _ _ _).mono ?_; rintro e wE ⟨rfl, hE⟩
      have HE := Lib.hid (HD.out.trans (((Below.refl _ _).alloc (by omega) _).trans (hE.mono (by simp; omega))))
      clear hE
      cases hnz : (n == 0)
      · have hq : (c.acts == x) = false := by rw [← Hz.out]; exact hnz
        go_wp2
        go_ret
        exact ⟨rfl, HE.out⟩
      · have hq : (c.acts == x) = true := by rw [← Hz.out]; exact hnz
        go_wp2
        go_ret
        exact ⟨rfl, HE.out⟩

set_option maxRecDepth 100000 in
theorem lifted (os : Os) (started : os.Started) (H : Type) (enc : TypeId × Value → H) :
    ReturnsInHanded {} Try.checked os 13 .any (Rows.fnClassOfSpec.pre6 enc Try.prog Try.f13 Rows.fnClassOfRow.domain false) (Rows.fnClassOfSpec.post enc Try.prog Try.f13 false true false false) := by
  refine returnsInHanded_of_change (C := Try.checked) own started (by kernel_rfl) Try.func13
    (ChangeSpec.witness6 (enc := enc) (C := Try.checked) false ⟨#[], #[.slice none 0 0], []⟩ 8 (by kernel_rfl) (by kernel_rfl) (by kernel_rfl) (by kernel_rfl)) ?_
  intro W base args ds gs before hval0 hW hcnd _
  have hval : ∀ (j : Nat) t v, Try.f13.params[j]? = some t → args[j]? = some v → Value.okWide Try.prog W .any base t v := hval0
  have hW' := hW
  have hltb : ∀ x ∈ before, x.block < W.heap.size := fun x hx => hW.lt x hx
  obtain ⟨p, q, hA0, hV, rfl, hfz, hnd⟩ := hW
  have hA : DataW.TrodAll enc Try.prog W 0 (fun _ => true) true Try.f13.params.toList args.toList ds p := hA0
  have hlt : ∀ x ∈ p, x.block < W.heap.size := fun x hx => hltb x (List.mem_append_left _ hx)
  have hAll := hA
  rw [Try.params13] at hA hval
  obtain ⟨v0, vs0, d0, ds0, p0, q0, hargs, rfl, rfl, h0, r0⟩ := trodAll_cons hA
  obtain ⟨rfl, rfl, rfl⟩ := trodAll_nil r0
  obtain rfl : args = #[v0] := by cases args; simp_all
  obtain ⟨rfl, rfl⟩ := trodVars_none hV
  clear hA0 hval0
  have hlt0 : ∀ x ∈ p0, x.block < W.heap.size := fun x hx => hlt x (by simp [hx])
  have w0 := open_bytes (hval 0 22 v0 rfl rfl) h0 hlt0
  simp only [List.append_nil] at hW' hltb hAll
  refine (walk v0 W w0).mono fun e W' ⟨he, hg⟩ => ?_
  subst he
  exact ⟨_, rfl, post_of_below (pa := _) (pv := []) hW' (fun _ _ _ => (trodAll_cons_mk (shut_bool Try.underlying4 _) trodAll_mk0))
    (fun sp hsp => trodAll_stays laidOut hg (by kernel_rfl) hAll hltb sp hsp) (fun _ _ => rfl) (by simp) hg (ok_one (by kernel_rfl) rfl (okWide_bool_mk Try.underlying4 _))⟩

theorem over : Rows.fnClassOfRow.holds Try.pinned (OpenSpec.ofChange Rows.fnClassOfSpec) :=
  OpenClaim.holds_of_wide 13 Try.f13 rfl rfl rfl rfl rfl rfl rfl ⟨rfl, rfl, rfl, rfl, rfl⟩ rfl rfl rfl rfl rfl (by kernel_rfl) Try.func13 (by kernel_rfl)
    (of_decide_eq_true (by kernel_rfl)) (by unfold Func.isWrapper; first | (rw [if_pos (by decide +kernel)]; kernel_rfl) | (rw [if_neg (by decide +kernel)]; exact ⟨rfl, rfl⟩))
    (fun os started H enc _ => lifted os started H enc)

/-- The statement. -/
theorem proved : Rows.FnClassOfSaid :=
  over
#print axioms proved
end Go.Proofs.Ytbiaamipfhgfeaa.fnClassOf
