/-
  AboveOf of the program is AboveOf of the reference.
  Conditions: none.
-/
import Derived.Test.YtlnlpholhnbifaaDoorPath
import Derived.Test.YtlnlpholhnbifaaDoorFrameD
import Derived.Test.YtlnlpholhnbifaaDoorTie
import Derived.Test.YtlnlpholhnbifaaDoorCards
namespace Go.Proofs.YtlnlpholhnbifaaDoor.fnExactAboveOf
open Go.ChangeShapes Go.WideShapes Go.ChangeAt Go.RowKit
open Go.ChangeMaps (open_string)
set_option linter.unusedVariables false
open Vc
attribute [local irreducible] WpC WpL WpD WpE WpB CallV QCallV Made AppV Ld LdN Ix EndV I64 MutN Mut CellsAt
theorem walk (a0 : ByteArray) (w0 : a0.size ≤ maxLen) (w : World) (hM : ML w) :
    Calls Tryd.prog 3 #[.string a0] w fun e w' => e = .returned (.bool true) ∧ Below w.heap.size w w' := by
  refine calls_of cx_ok Tryd.func3 Tryd.ntmps3 Tryd.results3 rfl rfl ?_
  repeat (first | refine WpL.cons ?_ | refine WpL.nil ?_ | refine WpC.seq ?_ | refine WpC.reg ?_ | refine WpC.ret ?_ | refine WpC.block ?_ | refine WpC.exit rfl ?_ | refine WpC.cond rfl ?_ | refine WpC.skip ?_ | refine WpD.cons ?_ | refine WpD.nil ?_)
  refine Br.intro (fun h => ?_) (fun h => ?_)
  · repeat (first | refine WpL.cons ?_ | refine WpL.nil ?_ | refine WpC.seq ?_ | refine WpC.reg ?_ | refine WpC.ret ?_ | refine WpC.block ?_ | refine WpC.exit rfl ?_ | refine WpC.cond rfl ?_ | refine WpC.skip ?_ | refine WpD.cons ?_ | refine WpD.nil ?_)
    exact EndV.val rfl (Ext.refl _)
  have hs : a0.size ≤ 1048600 := by have := of_decide_eq_false h; omega
  repeat (first | refine WpL.cons ?_ | refine WpL.nil ?_ | refine WpC.seq ?_ | refine WpC.reg ?_ | refine WpC.ret ?_ | refine WpC.block ?_ | refine WpC.exit rfl ?_ | refine WpC.cond rfl ?_ | refine WpC.skip ?_ | refine WpD.cons ?_ | refine WpD.nil ?_)
  refine CallV.val (fun w' hw _ => sAboveOf_vc a0 w' hs) ?_
  cases ho : aboveOf a0 with
  | none =>
    have hv : aboveV a0 = .tuple #[.string ⟨#[]⟩, .string ⟨#[]⟩, .bool false] := by rw [aboveV, ho]
    rw [hv]
    repeat (first | refine WpL.cons ?_ | refine WpL.nil ?_ | refine WpC.seq ?_ | refine WpC.reg ?_ | refine WpC.ret ?_ | refine WpC.block ?_ | refine WpC.exit rfl ?_ | refine WpC.cond rfl ?_ | refine WpC.skip ?_ | refine WpD.cons ?_ | refine WpD.nil ?_)
    refine CallV.val (fun w' hw _ => by have := iAboveOf_vc a0 w' hs (hM.ext hw); rw [hv] at this; exact this) ?_
    repeat (first | refine WpL.cons ?_ | refine WpL.nil ?_ | refine WpC.seq ?_ | refine WpC.reg ?_ | refine WpC.ret ?_ | refine WpC.block ?_ | refine WpC.exit rfl ?_ | refine WpC.cond rfl ?_ | refine WpC.skip ?_ | refine WpD.cons ?_ | refine WpD.nil ?_)
    repeat (refine Br.no (by simp) ?_; repeat (first | refine WpL.cons ?_ | refine WpL.nil ?_ | refine WpC.seq ?_ | refine WpC.reg ?_ | refine WpC.ret ?_ | refine WpC.block ?_ | refine WpC.exit rfl ?_ | refine WpC.cond rfl ?_ | refine WpC.skip ?_ | refine WpD.cons ?_ | refine WpD.nil ?_))
    exact EndV.val rfl (Ext.refl _)
  | some x =>
    have hv : aboveV a0 = .tuple #[.string x.1, .string x.2, .bool true] := by rw [aboveV, ho]
    rw [hv]
    repeat (first | refine WpL.cons ?_ | refine WpL.nil ?_ | refine WpC.seq ?_ | refine WpC.reg ?_ | refine WpC.ret ?_ | refine WpC.block ?_ | refine WpC.exit rfl ?_ | refine WpC.cond rfl ?_ | refine WpC.skip ?_ | refine WpD.cons ?_ | refine WpD.nil ?_)
    refine CallV.val (fun w' hw _ => by have := iAboveOf_vc a0 w' hs (hM.ext hw); rw [hv] at this; exact this) ?_
    repeat (first | refine WpL.cons ?_ | refine WpL.nil ?_ | refine WpC.seq ?_ | refine WpC.reg ?_ | refine WpC.ret ?_ | refine WpC.block ?_ | refine WpC.exit rfl ?_ | refine WpC.cond rfl ?_ | refine WpC.skip ?_ | refine WpD.cons ?_ | refine WpD.nil ?_)
    repeat (refine Br.no (by simp) ?_; repeat (first | refine WpL.cons ?_ | refine WpL.nil ?_ | refine WpC.seq ?_ | refine WpC.reg ?_ | refine WpC.ret ?_ | refine WpC.block ?_ | refine WpC.exit rfl ?_ | refine WpC.cond rfl ?_ | refine WpC.skip ?_ | refine WpD.cons ?_ | refine WpD.nil ?_))
    exact EndV.val rfl (Ext.refl _)

set_option maxRecDepth 100000 in
theorem lifted (os : Os) (started : os.Started) (H : Type) (enc : TypeId × Value → H) :
    ReturnsInHanded {} Tryd.checked os 3 .any (fun w args => (Rows.fnExactAboveOfSpec.pre enc Tryd.prog Tryd.f3 Rows.fnExactAboveOfRow.domain false w args ∧ laidMetH Tryd.prog Rows.fnExactAboveOfRow.laid w) ∧ sizedMet enc Tryd.prog Tryd.f3 (OpenSpec.ofChange Rows.fnExactAboveOfSpec) false w args) (Rows.fnExactAboveOfSpec.post enc Tryd.prog Tryd.f3 false true false false) := by
  refine returnsIn_and_shaped (C := Tryd.checked) (X := fun w _ => laidMetH Tryd.prog Rows.fnExactAboveOfRow.laid w) own started (by kernel_rfl) Tryd.func3
    (ChangeSpec.witness_shaped (enc := enc) (C := Tryd.checked) (os := os) (X := fun w _ => laidMetH Tryd.prog Rows.fnExactAboveOfRow.laid w) false (World.laidAll Tryd.prog os Rows.fnExactAboveOfRow.laid) #[.string ByteArray.empty] 8 (World.laidAll_os _ _ _)
      (World.shaped_of_ZipB (by kernel_rfl) (by kernel_rfl)) (by kernel_rfl) (by kernel_rfl) (by kernel_rfl)
      (by rw [MakeChecks.laidMetH_plain _ _ _ (by kernel_rfl)]; exact laidMet_laidAll _ (by kernel_rfl) (by kernel_rfl))) ?_
  intro W base args ds gs before hval0 hW hsh
  have hval : ∀ (j : Nat) t v, Tryd.f3.params[j]? = some t → args[j]? = some v → Value.okWide Tryd.prog W .any base t v := hval0
  have hW' := hW
  have hltb : ∀ x ∈ before, x.block < W.heap.size := fun x hx => hW.lt x hx
  obtain ⟨p, q, hA0, hV, rfl, hfz, hnd⟩ := hW
  have hA : DataW.TrodAll enc Tryd.prog W 0 (fun _ => true) true Tryd.f3.params.toList args.toList ds p := hA0
  have hlt : ∀ x ∈ p, x.block < W.heap.size := fun x hx => hltb x (List.mem_append_left _ hx)
  have hAll := hA
  rw [Tryd.params3] at hA hval
  obtain ⟨v0, vs0, d0, ds0, p0, q0, hargs, rfl, rfl, h0, r0⟩ := trodAll_cons hA
  obtain ⟨rfl, rfl, rfl⟩ := trodAll_nil r0
  obtain rfl : args = #[v0] := by cases args; simp_all
  obtain ⟨rfl, rfl⟩ := trodVars_none hV
  clear hA0 hval0
  obtain ⟨a0, hv0, _, _, w0⟩ := open_string Tryd.underlying9 (hval 0 9 v0 rfl rfl) h0
  subst hv0
  simp only [List.append_nil] at hW' hltb hAll
  refine (walk a0 w0 W (ml_of hsh)).mono fun e W' ⟨he, hg⟩ => ?_
  subst he
  exact ⟨_, rfl, post_of_below (pa := _) (pv := []) hW' (fun _ _ _ => (trodAll_cons_mk (shut_bool Tryd.underlying4 _) trodAll_mk0))
    (fun sp hsp => trodAll_stays laidOut hg (by kernel_rfl) hAll hltb sp hsp) (fun _ _ => rfl) (by simp) hg (ok_one (by kernel_rfl) rfl (okWide_bool_mk Tryd.underlying4 _))⟩

theorem over : Rows.fnExactAboveOfRow.holds Tryd.pinned (OpenSpec.ofChange Rows.fnExactAboveOfSpec) :=
  OpenClaim.holds_of_wide 3 Tryd.f3 rfl rfl rfl rfl rfl rfl rfl ⟨rfl, rfl, rfl, rfl, rfl⟩ rfl rfl rfl rfl rfl (by kernel_rfl) Tryd.func3 (by kernel_rfl)
    (of_decide_eq_true (by kernel_rfl)) (by unfold Func.isWrapper; first | (rw [if_pos (by decide +kernel)]; kernel_rfl) | (rw [if_neg (by decide +kernel)]; exact ⟨rfl, rfl⟩))
    (fun os started H enc _ => lifted os started H enc)


/-- The statement. -/
theorem proved : Rows.FnExactAboveOfCardSaid :=
  Claim7.holds_tied_plain_at .later [] [.data, .pinned] true (true, "a89723e2d3387c80b5a5c0e2c7cf7c5abc307fd3d798e3a2c6e09770759acb4b") false over (fun _ h => by cases h) (by kernel_rfl) (fun _ h => by cases h) fnExactAboveOf_row_tie rfl ⟨rfl, rfl⟩ (by kernel_rfl) rfl
    (fun f fn hf hfn => by
      obtain rfl : f = 3 := Option.some.inj ((show Tryd.prog.funcNamed Rows.fnExactAboveOfRow.func = some 3 by kernel_rfl).symm.trans hf) |>.symm
      obtain rfl : fn = Tryd.f3 := (Option.some.inj (Tryd.func3.symm.trans hfn)).symm
      exact ⟨by kernel_rfl, fun j t ht => by
        rw [Tryd.params3] at ht
        have hm : t ∈ [9] := by simpa using Array.mem_of_getElem? ht
        have hall : ([9].all fun u => !Tryd.prog.wantsStandIn u) = true := by kernel_rfl
        exact (show Tryd.prog.wantsStandIn t = false by simpa using List.all_eq_true.1 hall t hm)⟩)
    (by kernel_rfl)
#print axioms proved
end Go.Proofs.YtlnlpholhnbifaaDoor.fnExactAboveOf
