/-
  Credentials have users: with a negative one none is valid; without groups a valid one is valid.
  Conditions: none.
-/
import Derived.Test.YtbiaamipfhgfeaaDraws2
import Derived.Test.YtbiaamipfhgfeaaAlive
namespace Go.Proofs.Ytbiaamipfhgfeaa.fnCredValid
open Go.ChangeShapes Go.WideShapes Go.ChangeAt Go.RowKit
open Go.ChangeMaps (open_string)
set_option linter.unusedVariables false
set_option maxHeartbeats 4000000 in
theorem walk (v0 : Value) (w : World) (w0 : CodeAt w v0) :
    Calls Try.prog 8 #[v0] w fun e w' => e = .returned (.bool true) ∧ Below w.heap.size w w' := by
  obtain ⟨ad, len, cap, bs, rfl, hlc, hcm, hbl, hbd, hcell⟩ := w0
  have h0 : CodeAt w (.slice ad len cap) := ⟨ad, len, cap, bs, rfl, hlc, hcm, hbl, hbd, hcell⟩
  unfold maxLen at hcm
  clear hbl hbd hcell
  by_cases hbig : 1048576 < len
  · clear h0
    go_enter Try.func8, Try.ntmps8
    go_wp2
    go_ret
    exact ⟨rfl, Below.refl _ _⟩
  · go_enter Try.func8, Try.ntmps8
    go_wp2_with fail
    refine (dCredValid_any _ _ h0).mono ?_; rintro e wA ⟨c, rfl, hsm, hA⟩
    have HA := Lib.hid (((Below.refl _ _).trans hA).alloc hA.size c.o)
    have hs0 : w.heap.size ≤ wA.heap.size := hA.size
    clear hA h0
    have hn : (Cr.ok ⟨-1, 0, 0, c.groups⟩) = false := by simp [Cr.ok, inR]
    have hy : c.ok = true → (Cr.ok ⟨c.real, c.acts, c.saved, 0⟩) = true := by
      intro h; rw [Cr.ok_iff] at h ⊢; simp only; omega
    cases hc : c.ok
    · clear hy
      go_wp2_with fail
      refine (iCredValid_ex _ _).mono ?_; rintro e w1 ⟨rfl, rfl⟩
      rw [hc]
      go_wp2_with fail
      refine (sCredValid_ex _ _).mono ?_; rintro e w1 ⟨rfl, rfl⟩
      rw [hc]
      go_wp2_with fail
      refine (iCredValid_ex ⟨-1, 0, 0, c.groups⟩ _).mono ?_; rintro e w1 ⟨rfl, rfl⟩
      rw [hn]
      go_wp2_with (go_at_call 18; refine (alive_any _).mono ?_; rintro e w' ⟨rfl, rfl⟩)
      go_ret
      exact ⟨rfl, by have := HA.out; repeat (first | assumption | refine Below.alloc ?_ (by first | omega | (simp <;> omega)) _)⟩
    · have hy' := hy hc
      clear hy
      go_wp2_with fail
      refine (iCredValid_ex _ _).mono ?_; rintro e w1 ⟨rfl, rfl⟩
      rw [hc]
      go_wp2_with fail
      refine (sCredValid_ex _ _).mono ?_; rintro e w1 ⟨rfl, rfl⟩
      rw [hc]
      go_wp2_with fail
      refine (iCredValid_ex ⟨-1, 0, 0, c.groups⟩ _).mono ?_; rintro e w1 ⟨rfl, rfl⟩
      rw [hn]
      go_wp2_with fail
      refine (iCredValid_ex ⟨c.real, c.acts, c.saved, 0⟩ _).mono ?_; rintro e w1 ⟨rfl, rfl⟩
      rw [hy']
      go_wp2_with (go_at_call 18; refine (alive_any _).mono ?_; rintro e w' ⟨rfl, rfl⟩)
      go_ret
      exact ⟨rfl, by have := HA.out; repeat (first | assumption | refine Below.alloc ?_ (by first | omega | (simp <;> omega)) _)⟩

set_option maxRecDepth 100000 in
theorem lifted (os : Os) (started : os.Started) (H : Type) (enc : TypeId × Value → H) :
    ReturnsInHanded {} Try.checked os 8 .any (Rows.fnCredValidSpec.pre6 enc Try.prog Try.f8 Rows.fnCredValidRow.domain false) (Rows.fnCredValidSpec.post enc Try.prog Try.f8 false true false false) := by
  refine returnsInHanded_of_change (C := Try.checked) own started (by kernel_rfl) Try.func8
    (ChangeSpec.witness6 (enc := enc) (C := Try.checked) false ⟨#[], #[.slice none 0 0], []⟩ 8 (by kernel_rfl) (by kernel_rfl) (by kernel_rfl) (by kernel_rfl)) ?_
  intro W base args ds gs before hval0 hW hcnd _
  have hval : ∀ (j : Nat) t v, Try.f8.params[j]? = some t → args[j]? = some v → Value.okWide Try.prog W .any base t v := hval0
  have hW' := hW
  have hltb : ∀ x ∈ before, x.block < W.heap.size := fun x hx => hW.lt x hx
  obtain ⟨p, q, hA0, hV, rfl, hfz, hnd⟩ := hW
  have hA : DataW.TrodAll enc Try.prog W 0 (fun _ => true) true Try.f8.params.toList args.toList ds p := hA0
  have hlt : ∀ x ∈ p, x.block < W.heap.size := fun x hx => hltb x (List.mem_append_left _ hx)
  have hAll := hA
  rw [Try.params8] at hA hval
  obtain ⟨v0, vs0, d0, ds0, p0, q0, hargs, rfl, rfl, h0, r0⟩ := trodAll_cons hA
  obtain ⟨rfl, rfl, rfl⟩ := trodAll_nil r0
  obtain rfl : args = #[v0] := by cases args; simp_all
  obtain ⟨rfl, rfl⟩ := trodVars_none hV
  clear hA0 hval0
  have hlt0 : ∀ x ∈ p0, x.block < W.heap.size := fun x hx => hlt x (by simp [hx])
  have w0 := open_bytes (hval 0 22 v0 rfl rfl) h0 hlt0
  simp only [List.append_nil] at hW' hltb hAll
  refine (walk v0 W w0).mono fun e W' ⟨he, hg⟩ => ?_
  subst he
  exact ⟨_, rfl, post_of_below (pa := _) (pv := []) hW' (fun _ _ _ => (trodAll_cons_mk (shut_bool Try.underlying4 _) trodAll_mk0))
    (fun sp hsp => trodAll_stays laidOut hg (by kernel_rfl) hAll hltb sp hsp) (fun _ _ => rfl) (by simp) hg (ok_one (by kernel_rfl) rfl (okWide_bool_mk Try.underlying4 _))⟩

theorem over : Rows.fnCredValidRow.holds Try.pinned (OpenSpec.ofChange Rows.fnCredValidSpec) :=
  OpenClaim.holds_of_wide 8 Try.f8 rfl rfl rfl rfl rfl rfl rfl ⟨rfl, rfl, rfl, rfl, rfl⟩ rfl rfl rfl rfl rfl (by kernel_rfl) Try.func8 (by kernel_rfl)
    (of_decide_eq_true (by kernel_rfl)) (by unfold Func.isWrapper; first | (rw [if_pos (by decide +kernel)]; kernel_rfl) | (rw [if_neg (by decide +kernel)]; exact ⟨rfl, rfl⟩))
    (fun os started H enc _ => lifted os started H enc)

/-- The statement. -/
theorem proved : Rows.FnCredValidSaid :=
  over
#print axioms proved
end Go.Proofs.Ytbiaamipfhgfeaa.fnCredValid
