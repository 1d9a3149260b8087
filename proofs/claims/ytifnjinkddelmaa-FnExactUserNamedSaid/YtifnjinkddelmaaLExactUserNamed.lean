/-
  UserNamed of the program is UserNamed of the reference.
  Conditions: none.
-/
import Derived.Test.YtifnjinkddelmaaUsrG
namespace Go.Proofs.Ytifnjinkddelmaa.fnExactUserNamed
open Go.ChangeShapes Go.WideShapes Go.ChangeAt Go.RowKit
open Go.ChangeMaps (open_string)
set_option linter.unusedVariables false
open Vc
attribute [local irreducible] WpC WpL WpD CallV QCallV Made AppV Ld LdN Ix EndV I64 MutN Mut CellsAt
theorem walk (v0 : Value) (a1 : ByteArray) (w1 : a1.size ≤ maxLen) (w : World) (w0 : ∃ us, Uss w v0 us ∧ ∀ u ∈ us, u.wf) :
    Calls Try.prog 11 #[v0, .string a1] w fun e w' => e = .returned (.bool true) ∧ Below w.heap.size w w' := by
  obtain ⟨us, hU, hwf⟩ := w0
  refine calls_of cx_ok Try.func11 Try.ntmps11 Try.results11 rfl rfl ?_
  repeat (first | refine WpL.cons ?_ | refine WpL.nil ?_ | refine WpC.seq ?_ | refine WpC.reg ?_ | refine WpC.ret ?_ | refine WpC.block ?_ | refine WpC.exit rfl ?_ | refine WpC.cond rfl ?_ | refine WpC.skip ?_ | refine WpD.cons ?_ | refine WpD.nil ?_)
  refine Br.intro (fun h => ?_) (fun h => ?_)
  · repeat (first | refine WpL.cons ?_ | refine WpL.nil ?_ | refine WpC.seq ?_ | refine WpC.reg ?_ | refine WpC.ret ?_ | refine WpC.block ?_ | refine WpC.exit rfl ?_ | refine WpC.cond rfl ?_ | refine WpC.skip ?_ | refine WpD.cons ?_ | refine WpD.nil ?_)
    exact EndV.val rfl (Ext.refl _)
  repeat (first | refine WpL.cons ?_ | refine WpL.nil ?_ | refine WpC.seq ?_ | refine WpC.reg ?_ | refine WpC.ret ?_ | refine WpC.block ?_ | refine WpC.exit rfl ?_ | refine WpC.cond rfl ?_ | refine WpC.skip ?_ | refine WpD.cons ?_ | refine WpD.nil ?_)
  refine CallV.val (fun w' hw _ => szUserS_vc us _ _ w' (hU.ext hw) hwf (by omega) (by omega)) ?_
  repeat (first | refine WpL.cons ?_ | refine WpL.nil ?_ | refine WpC.seq ?_ | refine WpC.reg ?_ | refine WpC.ret ?_ | refine WpC.block ?_ | refine WpC.exit rfl ?_ | refine WpC.cond rfl ?_ | refine WpC.skip ?_ | refine WpD.cons ?_ | refine WpD.nil ?_)
  refine Br.intro (fun h => ?_) (fun h => ?_)
  · repeat (first | refine WpL.cons ?_ | refine WpL.nil ?_ | refine WpC.seq ?_ | refine WpC.reg ?_ | refine WpC.ret ?_ | refine WpC.block ?_ | refine WpC.exit rfl ?_ | refine WpC.cond rfl ?_ | refine WpC.skip ?_ | refine WpD.cons ?_ | refine WpD.nil ?_)
    exact EndV.val rfl (Ext.refl _)
  have hl := szUs_len (of_decide_eq_false h)
  repeat (first | refine WpL.cons ?_ | refine WpL.nil ?_ | refine WpC.seq ?_ | refine WpC.reg ?_ | refine WpC.ret ?_ | refine WpC.block ?_ | refine WpC.exit rfl ?_ | refine WpC.cond rfl ?_ | refine WpC.skip ?_ | refine WpD.cons ?_ | refine WpD.nil ?_)
  refine CallV.mem _ (fun w' hw _ => toUserS_vc us _ w' (hU.ext hw) hl) (fun x1 wa wb hx1 hx2 _ ⟨hU1, _⟩ => ?_)
  repeat (first | refine WpL.cons ?_ | refine WpL.nil ?_ | refine WpC.seq ?_ | refine WpC.reg ?_ | refine WpC.ret ?_ | refine WpC.block ?_ | refine WpC.exit rfl ?_ | refine WpC.cond rfl ?_ | refine WpC.skip ?_ | refine WpD.cons ?_ | refine WpD.nil ?_)
  refine CallV.val (fun w' hw _ => sUserNamed_vc us _ a1 w' (hU1.ext hw) hwf) ?_
  repeat (first | refine WpL.cons ?_ | refine WpL.nil ?_ | refine WpC.seq ?_ | refine WpC.reg ?_ | refine WpC.ret ?_ | refine WpC.block ?_ | refine WpC.exit rfl ?_ | refine WpC.cond rfl ?_ | refine WpC.skip ?_ | refine WpD.cons ?_ | refine WpD.nil ?_)
  have hxb := hx1.trans hx2
  refine CallV.mem _ (fun w' hw _ => toUserS_vc us _ w' (hU.ext (hxb.trans hw)) hl) (fun x2 wc wd hx3 hx4 _ ⟨hU2, _⟩ => ?_)
  repeat (first | refine WpL.cons ?_ | refine WpL.nil ?_ | refine WpC.seq ?_ | refine WpC.reg ?_ | refine WpC.ret ?_ | refine WpC.block ?_ | refine WpC.exit rfl ?_ | refine WpC.cond rfl ?_ | refine WpC.skip ?_ | refine WpD.cons ?_ | refine WpD.nil ?_)
  refine CallV.val (fun w' hw _ => iUserNamed_vc us _ a1 w' (hU2.ext hw) hwf) ?_
  repeat (first | refine WpL.cons ?_ | refine WpL.nil ?_ | refine WpC.seq ?_ | refine WpC.reg ?_ | refine WpC.ret ?_ | refine WpC.block ?_ | refine WpC.exit rfl ?_ | refine WpC.cond rfl ?_ | refine WpC.skip ?_ | refine WpD.cons ?_ | refine WpD.nil ?_)
  refine Br.no (by simp) ?_
  repeat (first | refine WpL.cons ?_ | refine WpL.nil ?_ | refine WpC.seq ?_ | refine WpC.reg ?_ | refine WpC.ret ?_ | refine WpC.block ?_ | refine WpC.exit rfl ?_ | refine WpC.cond rfl ?_ | refine WpC.skip ?_ | refine WpD.cons ?_ | refine WpD.nil ?_)
  have hxd := (hxb.trans hx3).trans hx4
  refine CallV.mem _ (fun w' hw _ => toUserS_vc us _ w' (hU.ext (hxd.trans hw)) hl) (fun x3 we wf hx5 hx6 _ ⟨hU3, _⟩ => ?_)
  repeat (first | refine WpL.cons ?_ | refine WpL.nil ?_ | refine WpC.seq ?_ | refine WpC.reg ?_ | refine WpC.ret ?_ | refine WpC.block ?_ | refine WpC.exit rfl ?_ | refine WpC.cond rfl ?_ | refine WpC.skip ?_ | refine WpD.cons ?_ | refine WpD.nil ?_)
  refine CallV.val (fun w' hw _ => eqUserS_vc us us _ _ w' (hU2.ext ((hx5.trans hx6).trans hw)) (hU3.ext hw) rfl) ?_
  repeat (first | refine WpL.cons ?_ | refine WpL.nil ?_ | refine WpC.seq ?_ | refine WpC.reg ?_ | refine WpC.ret ?_ | refine WpC.block ?_ | refine WpC.exit rfl ?_ | refine WpC.cond rfl ?_ | refine WpC.skip ?_ | refine WpD.cons ?_ | refine WpD.nil ?_)
  exact EndV.val rfl ((hxd.trans hx5).trans hx6)

set_option maxRecDepth 100000 in
theorem lifted (os : Os) (started : os.Started) (H : Type) (enc : TypeId × Value → H) :
    ReturnsInHanded {} Try.checked os 11 .any (Rows.fnExactUserNamedSpec.pre6 enc Try.prog Try.f11 Rows.fnExactUserNamedRow.domain false) (Rows.fnExactUserNamedSpec.post enc Try.prog Try.f11 false true false false) := by
  refine returnsInHanded_of_change (C := Try.checked) own started (by kernel_rfl) Try.func11
    (ChangeSpec.witness6 (enc := enc) (C := Try.checked) false ⟨#[], #[.slice none 0 0, .string ByteArray.empty], []⟩ 8 (by kernel_rfl) (by kernel_rfl) (by kernel_rfl) (by kernel_rfl)) ?_
  intro W base args ds gs before hval0 hW hcnd _
  have hval : ∀ (j : Nat) t v, Try.f11.params[j]? = some t → args[j]? = some v → Value.okWide Try.prog W .any base t v := hval0
  have hW' := hW
  have hltb : ∀ x ∈ before, x.block < W.heap.size := fun x hx => hW.lt x hx
  obtain ⟨p, q, hA0, hV, rfl, hfz, hnd⟩ := hW
  have hA : DataW.TrodAll enc Try.prog W 0 (fun _ => true) true Try.f11.params.toList args.toList ds p := hA0
  have hlt : ∀ x ∈ p, x.block < W.heap.size := fun x hx => hltb x (List.mem_append_left _ hx)
  have hAll := hA
  rw [Try.params11] at hA hval
  obtain ⟨v0, vs0, d0, ds0, p0, q0, hargs, rfl, rfl, h0, r0⟩ := trodAll_cons hA
  obtain ⟨v1, vs1, d1, ds1, p1, q1, rfl, rfl, rfl, h1, r1⟩ := trodAll_cons r0
  obtain ⟨rfl, rfl, rfl⟩ := trodAll_nil r1
  obtain rfl : args = #[v0, v1] := by cases args; simp_all
  obtain ⟨rfl, rfl⟩ := trodVars_none hV
  clear hA0 hval0
  have hlt0 : ∀ x ∈ p0, x.block < W.heap.size := fun x hx => hlt x (by simp [hx])
  have w0 := open_users (hval 0 41 v0 rfl rfl) h0 hlt0
  obtain ⟨a1, hv1, _, _, w1⟩ := open_string Try.underlying9 (hval 1 9 v1 rfl rfl) h1
  subst hv1
  simp only [List.append_nil] at hW' hltb hAll
  refine (walk v0 a1 w1 W w0).mono fun e W' ⟨he, hg⟩ => ?_
  subst he
  exact ⟨_, rfl, post_of_below (pa := _) (pv := []) hW' (fun _ _ _ => (trodAll_cons_mk (shut_bool Try.underlying4 _) trodAll_mk0))
    (fun sp hsp => trodAll_stays laidOut hg (by kernel_rfl) hAll hltb sp hsp) (fun _ _ => rfl) (by simp) hg (ok_one (by kernel_rfl) rfl (okWide_bool_mk Try.underlying4 _))⟩

theorem over : Rows.fnExactUserNamedRow.holds Try.pinned (OpenSpec.ofChange Rows.fnExactUserNamedSpec) :=
  OpenClaim.holds_of_wide 11 Try.f11 rfl rfl rfl rfl rfl rfl rfl ⟨rfl, rfl, rfl, rfl, rfl⟩ rfl rfl rfl rfl rfl (by kernel_rfl) Try.func11 (by kernel_rfl)
    (of_decide_eq_true (by kernel_rfl)) (by unfold Func.isWrapper; first | (rw [if_pos (by decide +kernel)]; kernel_rfl) | (rw [if_neg (by decide +kernel)]; exact ⟨rfl, rfl⟩))
    (fun os started H enc _ => lifted os started H enc)

/-- The statement. -/
theorem proved : Rows.FnExactUserNamedSaid :=
  over
#print axioms proved
end Go.Proofs.Ytifnjinkddelmaa.fnExactUserNamed
