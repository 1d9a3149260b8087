/-
  MayDrop of the program is MayDrop of the reference.
  Conditions: none.
-/
import Derived.Test.YtikhdlgjfddedaaDoorFinds
import Derived.Test.YtikhdlgjfddedaaDoorNodeO
import Derived.Test.YtikhdlgjfddedaaDoorFrameD
import Derived.Test.YtikhdlgjfddedaaDoorTie
import Derived.Test.YtikhdlgjfddedaaDoorCards
namespace Go.Proofs.YtikhdlgjfddedaaDoor.fnExactMayDrop
open Go.ChangeShapes Go.WideShapes Go.ChangeAt Go.RowKit
open Go.ChangeMaps (open_string)
set_option linter.unusedVariables false
open Vc
attribute [local irreducible] WpC WpL WpD WpE WpB CallV QCallV Made AppV Ld LdN Ix EndV I64 MutN Mut CellsAt
set_option maxHeartbeats 1000000 in
theorem walk (v0 : Value) (a1 : Cr) (w1 : a1.wf) (a2 : ByteArray) (w2 : a2.size ≤ maxLen) (w : World) (w0 : ∃ ts, Tree w v0 ts ∧ ∀ n ∈ ts, n.wf) (hM : ML w) :
    Calls Tryd.prog 8 #[v0, a1.v, .string a2] w fun e w' => e = .returned (.bool true) ∧ Below w.heap.size w w' := by
  obtain ⟨ts, hT, hwf⟩ := w0
  refine calls_of cx_ok Tryd.func8 Tryd.ntmps8 Tryd.results8 rfl rfl ?_
  repeat (first | refine WpL.cons ?_ | refine WpL.nil ?_ | refine WpC.seq ?_ | refine WpC.reg ?_ | refine WpC.ret ?_ | refine WpC.block ?_ | refine WpC.exit rfl ?_ | refine WpC.cond rfl ?_ | refine WpC.skip ?_ | refine WpD.cons ?_ | refine WpD.nil ?_)
  intro b hb
  repeat (first | refine WpL.cons ?_ | refine WpL.nil ?_ | refine WpC.seq ?_ | refine WpC.reg ?_ | refine WpC.ret ?_ | refine WpC.block ?_ | refine WpC.exit rfl ?_ | refine WpC.cond rfl ?_ | refine WpC.skip ?_ | refine WpD.cons ?_ | refine WpD.nil ?_)
  refine Br.intro (fun h => ?_) (fun h => ?_)
  · repeat (first | refine WpL.cons ?_ | refine WpL.nil ?_ | refine WpC.seq ?_ | refine WpC.reg ?_ | refine WpC.ret ?_ | refine WpC.block ?_ | refine WpC.exit rfl ?_ | refine WpC.cond rfl ?_ | refine WpC.skip ?_ | refine WpD.cons ?_ | refine WpD.nil ?_)
    exact EndV.val rfl (Ext.refl _)
  have hp2 : a2.size ≤ 1048600 := by have := of_decide_eq_false h; omega
  repeat (first | refine WpL.cons ?_ | refine WpL.nil ?_ | refine WpC.seq ?_ | refine WpC.reg ?_ | refine WpC.ret ?_ | refine WpC.block ?_ | refine WpC.exit rfl ?_ | refine WpC.cond rfl ?_ | refine WpC.skip ?_ | refine WpD.cons ?_ | refine WpD.nil ?_)
  refine CallV.val (fun w' hw _ => szNodeS_vc ts _ _ w' (hT.ext hw) hwf (by omega) (by omega)) ?_
  repeat (first | refine WpL.cons ?_ | refine WpL.nil ?_ | refine WpC.seq ?_ | refine WpC.reg ?_ | refine WpC.ret ?_ | refine WpC.block ?_ | refine WpC.exit rfl ?_ | refine WpC.cond rfl ?_ | refine WpC.skip ?_ | refine WpD.cons ?_ | refine WpD.nil ?_)
  refine Br.intro (fun h => ?_) (fun h => ?_)
  · repeat (first | refine WpL.cons ?_ | refine WpL.nil ?_ | refine WpC.seq ?_ | refine WpC.reg ?_ | refine WpC.ret ?_ | refine WpC.block ?_ | refine WpC.exit rfl ?_ | refine WpC.cond rfl ?_ | refine WpC.skip ?_ | refine WpD.cons ?_ | refine WpD.nil ?_)
    exact EndV.val rfl (Ext.refl _)
  have hs := szNds_sized (of_decide_eq_false h)
  repeat (first | refine WpL.cons ?_ | refine WpL.nil ?_ | refine WpC.seq ?_ | refine WpC.reg ?_ | refine WpC.ret ?_ | refine WpC.block ?_ | refine WpC.exit rfl ?_ | refine WpC.cond rfl ?_ | refine WpC.skip ?_ | refine WpD.cons ?_ | refine WpD.nil ?_)
  refine WpC.drawE (.st 0 (.st 2 (.st 4 (.ef 1 (.ef 3 (.ef 5 (.st 6 .done) .done) .done) .done)))) [(0, .mv), (1, .ef), (3, .ef), (4, .mv), (5, .ef), (6, .mv)] (by kernel_rfl) ?_
  repeat (first | refine WpE.mv (by exact rfl) (by exact rfl) ?_ | refine WpE.rd (by exact rfl) (by exact rfl) ?_ | refine WpE.ef (by exact rfl) (by exact rfl) ?_ | refine WpE.br (by exact rfl) (by exact rfl) ?_ | refine WpE.after ?_ | refine WpE.done ?_ | refine WpL.cons ?_ | refine WpL.nil ?_ | refine WpC.seq ?_ | refine WpC.reg ?_ | refine WpC.ret ?_ | refine WpC.block ?_ | refine WpC.exit rfl ?_ | refine WpC.cond rfl ?_ | refine WpC.skip ?_ | refine WpD.cons ?_ | refine WpD.nil ?_)
  refine CallV.mem _ (fun w' hw _ => toNodeS_vc ts _ w' (hT.ext hw) hs) (fun x1 wa wb hx1 hx2 _ hT1 => ?_)
  have hxb := hx1.trans hx2
  have hA1_2 : Ask wb x1 ts a2 := ⟨hT1.tree, hs, hwf, hp2, hM.ext hxb⟩
  refine ⟨Keep.ext hxb, ?_⟩
  repeat (first | refine WpE.mv (by exact rfl) (by exact rfl) ?_ | refine WpE.rd (by exact rfl) (by exact rfl) ?_ | refine WpE.ef (by exact rfl) (by exact rfl) ?_ | refine WpE.br (by exact rfl) (by exact rfl) ?_ | refine WpE.after ?_ | refine WpE.done ?_ | refine WpL.cons ?_ | refine WpL.nil ?_ | refine WpC.seq ?_ | refine WpC.reg ?_ | refine WpC.ret ?_ | refine WpC.block ?_ | refine WpC.exit rfl ?_ | refine WpC.cond rfl ?_ | refine WpC.skip ?_ | refine WpD.cons ?_ | refine WpD.nil ?_)
  refine CallV.val (fun w' hw _ => toCred_any a1 w') ?_
  refine ⟨Keep.ext hxb, ?_⟩
  repeat (first | refine WpE.mv (by exact rfl) (by exact rfl) ?_ | refine WpE.rd (by exact rfl) (by exact rfl) ?_ | refine WpE.ef (by exact rfl) (by exact rfl) ?_ | refine WpE.br (by exact rfl) (by exact rfl) ?_ | refine WpE.after ?_ | refine WpE.done ?_ | refine WpL.cons ?_ | refine WpL.nil ?_ | refine WpC.seq ?_ | refine WpC.reg ?_ | refine WpC.ret ?_ | refine WpC.block ?_ | refine WpC.exit rfl ?_ | refine WpC.cond rfl ?_ | refine WpC.skip ?_ | refine WpD.cons ?_ | refine WpD.nil ?_)
  refine CallV.val (fun w' hw _ => sMayDrop_vc ts _ a1 a2 w' (hA1_2.ext hw)) ?_
  refine ⟨Keep.ext hxb, ?_⟩
  repeat (first | refine WpE.mv (by exact rfl) (by exact rfl) ?_ | refine WpE.rd (by exact rfl) (by exact rfl) ?_ | refine WpE.ef (by exact rfl) (by exact rfl) ?_ | refine WpE.br (by exact rfl) (by exact rfl) ?_ | refine WpE.after ?_ | refine WpE.done ?_ | refine WpL.cons ?_ | refine WpL.nil ?_ | refine WpC.seq ?_ | refine WpC.reg ?_ | refine WpC.ret ?_ | refine WpC.block ?_ | refine WpC.exit rfl ?_ | refine WpC.cond rfl ?_ | refine WpC.skip ?_ | refine WpD.cons ?_ | refine WpD.nil ?_)
  refine CallV.mem _ (fun w' hw _ => toNodeS_vc ts _ w' (hT.ext (hxb.trans hw)) hs) (fun x2 wc wd hx3 hx4 _ hT2 => ?_)
  have hxd := (hxb.trans hx3).trans hx4
  have hA2_2 : Ask wd x2 ts a2 := ⟨hT2.tree, hs, hwf, hp2, hM.ext hxd⟩
  repeat (first | refine WpL.cons ?_ | refine WpL.nil ?_ | refine WpC.seq ?_ | refine WpC.reg ?_ | refine WpC.ret ?_ | refine WpC.block ?_ | refine WpC.exit rfl ?_ | refine WpC.cond rfl ?_ | refine WpC.skip ?_ | refine WpD.cons ?_ | refine WpD.nil ?_)
  refine CallV.val (fun w' hw _ => toCred_any a1 w') ?_
  repeat (first | refine WpL.cons ?_ | refine WpL.nil ?_ | refine WpC.seq ?_ | refine WpC.reg ?_ | refine WpC.ret ?_ | refine WpC.block ?_ | refine WpC.exit rfl ?_ | refine WpC.cond rfl ?_ | refine WpC.skip ?_ | refine WpD.cons ?_ | refine WpD.nil ?_)
  refine CallV.val (fun w' hw _ => iMayDrop_vc ts _ a1 a2 w' (hA2_2.ext hw)) ?_
  repeat (first | refine WpL.cons ?_ | refine WpL.nil ?_ | refine WpC.seq ?_ | refine WpC.reg ?_ | refine WpC.ret ?_ | refine WpC.block ?_ | refine WpC.exit rfl ?_ | refine WpC.cond rfl ?_ | refine WpC.skip ?_ | refine WpD.cons ?_ | refine WpD.nil ?_)
  repeat (refine Br.no (by simp) ?_; repeat (first | refine WpL.cons ?_ | refine WpL.nil ?_ | refine WpC.seq ?_ | refine WpC.reg ?_ | refine WpC.ret ?_ | refine WpC.block ?_ | refine WpC.exit rfl ?_ | refine WpC.cond rfl ?_ | refine WpC.skip ?_ | refine WpD.cons ?_ | refine WpD.nil ?_))
  refine CallV.mem _ (fun w' hw _ => toNodeS_vc ts _ w' (hT.ext (hxd.trans hw)) hs) (fun x3 we wf hx5 hx6 _ hT3 => ?_)
  repeat (first | refine WpL.cons ?_ | refine WpL.nil ?_ | refine WpC.seq ?_ | refine WpC.reg ?_ | refine WpC.ret ?_ | refine WpC.block ?_ | refine WpC.exit rfl ?_ | refine WpC.cond rfl ?_ | refine WpC.skip ?_ | refine WpD.cons ?_ | refine WpD.nil ?_)
  refine CallV.val (fun w' hw _ => eqNodeS_vc ts ts _ _ w' (hT2.tree.ext ((hx5.trans hx6).trans hw)) (hT3.tree.ext hw) rfl) ?_
  repeat (first | refine WpL.cons ?_ | refine WpL.nil ?_ | refine WpC.seq ?_ | refine WpC.reg ?_ | refine WpC.ret ?_ | refine WpC.block ?_ | refine WpC.exit rfl ?_ | refine WpC.cond rfl ?_ | refine WpC.skip ?_ | refine WpD.cons ?_ | refine WpD.nil ?_)
  exact EndV.val rfl ((hxd.trans hx5).trans hx6)

set_option maxRecDepth 100000 in
theorem lifted (os : Os) (started : os.Started) (H : Type) (enc : TypeId × Value → H) :
    ReturnsInHanded {} Tryd.checked os 8 .any (fun w args => (Rows.fnExactMayDropSpec.pre enc Tryd.prog Tryd.f8 Rows.fnExactMayDropRow.domain false w args ∧ laidMetH Tryd.prog Rows.fnExactMayDropRow.laid w) ∧ sizedMet enc Tryd.prog Tryd.f8 (OpenSpec.ofChange Rows.fnExactMayDropSpec) false w args) (Rows.fnExactMayDropSpec.post enc Tryd.prog Tryd.f8 false true false false) := by
  refine returnsIn_and_shaped (C := Tryd.checked) (X := fun w _ => laidMetH Tryd.prog Rows.fnExactMayDropRow.laid w) own started (by kernel_rfl) Tryd.func8
    (ChangeSpec.witness_shaped (enc := enc) (C := Tryd.checked) (os := os) (X := fun w _ => laidMetH Tryd.prog Rows.fnExactMayDropRow.laid w) false (World.laidAll Tryd.prog os Rows.fnExactMayDropRow.laid) #[.slice none 0 0, Value.agg #[.int .i64 0, .int .i64 0, .int .i64 0, .int .i64 0], .string ByteArray.empty] 8 (World.laidAll_os _ _ _)
      (World.shaped_of_ZipB (by kernel_rfl) (by kernel_rfl)) (by kernel_rfl) (by kernel_rfl) (by kernel_rfl)
      (by rw [MakeChecks.laidMetH_plain _ _ _ (by kernel_rfl)]; exact laidMet_laidAll _ (by kernel_rfl) (by kernel_rfl))) ?_
  intro W base args ds gs before hval0 hW hsh
  have hval : ∀ (j : Nat) t v, Tryd.f8.params[j]? = some t → args[j]? = some v → Value.okWide Tryd.prog W .any base t v := hval0
  have hW' := hW
  have hltb : ∀ x ∈ before, x.block < W.heap.size := fun x hx => hW.lt x hx
  obtain ⟨p, q, hA0, hV, rfl, hfz, hnd⟩ := hW
  have hA : DataW.TrodAll enc Tryd.prog W 0 (fun _ => true) true Tryd.f8.params.toList args.toList ds p := hA0
  have hlt : ∀ x ∈ p, x.block < W.heap.size := fun x hx => hltb x (List.mem_append_left _ hx)
  have hAll := hA
  rw [Tryd.params8] at hA hval
  obtain ⟨v0, vs0, d0, ds0, p0, q0, hargs, rfl, rfl, h0, r0⟩ := trodAll_cons hA
  obtain ⟨v1, vs1, d1, ds1, p1, q1, rfl, rfl, rfl, h1, r1⟩ := trodAll_cons r0
  obtain ⟨v2, vs2, d2, ds2, p2, q2, rfl, rfl, rfl, h2, r2⟩ := trodAll_cons r1
  obtain ⟨rfl, rfl, rfl⟩ := trodAll_nil r2
  obtain rfl : args = #[v0, v1, v2] := by cases args; simp_all
  obtain ⟨rfl, rfl⟩ := trodVars_none hV
  clear hA0 hval0
  have hlt0 : ∀ x ∈ p0, x.block < W.heap.size := fun x hx => hlt x (by simp [hx])
  have w0 := open_nodes (hval 0 22 v0 rfl rfl) h0 hlt0
  obtain ⟨a1, hv1, w1⟩ := open_cred (hval 1 24 v1 rfl rfl) h1
  subst hv1
  obtain ⟨a2, hv2, _, _, w2⟩ := open_string Tryd.underlying9 (hval 2 9 v2 rfl rfl) h2
  subst hv2
  simp only [List.append_nil] at hW' hltb hAll
  refine (walk v0 a1 w1 a2 w2 W w0 (ml_of hsh)).mono fun e W' ⟨he, hg⟩ => ?_
  subst he
  exact ⟨_, rfl, post_of_below (pa := _) (pv := []) hW' (fun _ _ _ => (trodAll_cons_mk (shut_bool Tryd.underlying4 _) trodAll_mk0))
    (fun sp hsp => trodAll_stays laidOut hg (by kernel_rfl) hAll hltb sp hsp) (fun _ _ => rfl) (by simp) hg (ok_one (by kernel_rfl) rfl (okWide_bool_mk Tryd.underlying4 _))⟩

theorem over : Rows.fnExactMayDropRow.holds Tryd.pinned (OpenSpec.ofChange Rows.fnExactMayDropSpec) :=
  OpenClaim.holds_of_wide 8 Tryd.f8 rfl rfl rfl rfl rfl rfl rfl ⟨rfl, rfl, rfl, rfl, rfl⟩ rfl rfl rfl rfl rfl (by kernel_rfl) Tryd.func8 (by kernel_rfl)
    (of_decide_eq_true (by kernel_rfl)) (by unfold Func.isWrapper; first | (rw [if_pos (by decide +kernel)]; kernel_rfl) | (rw [if_neg (by decide +kernel)]; exact ⟨rfl, rfl⟩))
    (fun os started H enc _ => lifted os started H enc)


/-- The statement. -/
theorem proved : Rows.FnExactMayDropCardSaid :=
  Claim7.holds_tied_plain_at .later [] [.data, .pinned] true (true, "8edc4f11389829de064443c8de1bd86532c92341b374bcfd1fcf93b73b1c19f9") false over (fun _ h => by cases h) (by kernel_rfl) (fun _ h => by cases h) fnExactMayDrop_row_tie rfl ⟨rfl, rfl⟩ (by kernel_rfl) rfl
    (fun f fn hf hfn => by
      obtain rfl : f = 8 := Option.some.inj ((show Tryd.prog.funcNamed Rows.fnExactMayDropRow.func = some 8 by kernel_rfl).symm.trans hf) |>.symm
      obtain rfl : fn = Tryd.f8 := (Option.some.inj (Tryd.func8.symm.trans hfn)).symm
      exact ⟨by kernel_rfl, fun j t ht => by
        rw [Tryd.params8] at ht
        have hm : t ∈ [22, 24, 9] := by simpa using Array.mem_of_getElem? ht
        have hall : ([22, 24, 9].all fun u => !Tryd.prog.wantsStandIn u) = true := by kernel_rfl
        exact (show Tryd.prog.wantsStandIn t = false by simpa using List.all_eq_true.1 hall t hm)⟩)
    (by kernel_rfl)
#print axioms proved
end Go.Proofs.YtikhdlgjfddedaaDoor.fnExactMayDrop
