/-
  OwnedNodes of the program is OwnedNodes of the reference, in memory of its own.
  Conditions: none.
-/
import Derived.Test.YtlnlpholhnbifaaTreeG
import Derived.Test.YtlnlpholhnbifaaMarkN
import Derived.Test.YtlnlpholhnbifaaNodeO
namespace Go.Proofs.Ytlnlpholhnbifaa.fnExactOwnedNodes
open Go.ChangeShapes Go.WideShapes Go.ChangeAt Go.RowKit
open Go.ChangeMaps (open_string)
set_option linter.unusedVariables false
open Vc
attribute [local irreducible] WpC WpL WpD WpE WpB CallV QCallV Made AppV Ld LdN Ix EndV I64 MutN Mut CellsAt
set_option maxHeartbeats 1000000 in
theorem walk (v0 : Value) (a1 : Int) (w1 : (Lit.int .i64 a1).wf = true) (w : World) (w0 : ∃ ts, Tree w v0 ts ∧ ∀ n ∈ ts, n.wf) :
    Calls Try.prog 7 #[v0, .int .i64 a1] w fun e w' => e = .returned (.bool true) ∧ Below w.heap.size w w' := by
  obtain ⟨ts, hT, hwf⟩ := w0
  refine calls_of cx_ok Try.func7 Try.ntmps7 Try.results7 rfl rfl ?_
  repeat (first | refine WpL.cons ?_ | refine WpL.nil ?_ | refine WpC.seq ?_ | refine WpC.reg ?_ | refine WpC.ret ?_ | refine WpC.block ?_ | refine WpC.exit rfl ?_ | refine WpC.cond rfl ?_ | refine WpC.skip ?_ | refine WpD.cons ?_ | refine WpD.nil ?_)
  refine CallV.val (fun w' hw _ => szNodeS_vc ts _ _ w' (hT.ext hw) hwf (by omega) (by omega)) ?_
  repeat (first | refine WpL.cons ?_ | refine WpL.nil ?_ | refine WpC.seq ?_ | refine WpC.reg ?_ | refine WpC.ret ?_ | refine WpC.block ?_ | refine WpC.exit rfl ?_ | refine WpC.cond rfl ?_ | refine WpC.skip ?_ | refine WpD.cons ?_ | refine WpD.nil ?_)
  refine Br.intro (fun h => ?_) (fun h => ?_)
  · repeat (first | refine WpL.cons ?_ | refine WpL.nil ?_ | refine WpC.seq ?_ | refine WpC.reg ?_ | refine WpC.ret ?_ | refine WpC.block ?_ | refine WpC.exit rfl ?_ | refine WpC.cond rfl ?_ | refine WpC.skip ?_ | refine WpD.cons ?_ | refine WpD.nil ?_)
    exact EndV.val rfl (Ext.refl _)
  have hs := szNds_sized (of_decide_eq_false h)
  have hcnt := szNds_cnt (of_decide_eq_false h)
  have hm : (ownedOf ts a1).length ≤ 1048576 := by have := ownedOf_len ts a1; have := hs.1; omega
  repeat (first | refine WpL.cons ?_ | refine WpL.nil ?_ | refine WpC.seq ?_ | refine WpC.reg ?_ | refine WpC.ret ?_ | refine WpC.block ?_ | refine WpC.exit rfl ?_ | refine WpC.cond rfl ?_ | refine WpC.skip ?_ | refine WpD.cons ?_ | refine WpD.nil ?_)
  refine CallV.mem _ (fun w' hw _ => toNodeS_vc ts _ w' (hT.ext hw) hs) (fun x1 wa wb hx1 hx2 _ hT1 => ?_)
  repeat (first | refine WpL.cons ?_ | refine WpL.nil ?_ | refine WpC.seq ?_ | refine WpC.reg ?_ | refine WpC.ret ?_ | refine WpC.block ?_ | refine WpC.exit rfl ?_ | refine WpC.cond rfl ?_ | refine WpC.skip ?_ | refine WpD.cons ?_ | refine WpD.nil ?_)
  refine CallV.mem _ (fun w' hw _ => sOwnedNodes_vc ts _ a1 w' (hT1.tree.ext hw) hs hwf) (fun x2 wc wd hx3 hx4 _ ⟨ad2, n2, cap2, e2, hB2⟩ => ?_)
  subst e2
  have hR2 := hB2.row1
  have hI2 := hB2.inB
  have hxd := ((hx1.trans hx2).trans hx3).trans hx4
  repeat (first | refine WpL.cons ?_ | refine WpL.nil ?_ | refine WpC.seq ?_ | refine WpC.reg ?_ | refine WpC.ret ?_ | refine WpC.block ?_ | refine WpC.exit rfl ?_ | refine WpC.cond rfl ?_ | refine WpC.skip ?_ | refine WpD.cons ?_ | refine WpD.nil ?_)
  refine CallV.mem _ (fun w' hw _ => toNodeS_vc ts _ w' (hT.ext (hxd.trans hw)) hs) (fun x3 we wf hx5 hx6 _ hT3 => ?_)
  have hxf := (hxd.trans hx5).trans hx6
  have hR2f := (hR2.ext hx5).ext hx6
  repeat (first | refine WpL.cons ?_ | refine WpL.nil ?_ | refine WpC.seq ?_ | refine WpC.reg ?_ | refine WpC.ret ?_ | refine WpC.block ?_ | refine WpC.exit rfl ?_ | refine WpC.cond rfl ?_ | refine WpC.skip ?_ | refine WpD.cons ?_ | refine WpD.nil ?_)
  refine CallV.mem _ (fun w' hw _ => iOwnedNodes_vc ts _ a1 w' (hT3.tree.ext hw) hs hwf) (fun x4 wg wh hx7 hx8 _ ⟨ad4, n4, cap4, e4, hB4⟩ => ?_)
  subst e4
  have hR4 := hB4.row1
  have hI4 := hB4.inB
  have hn4 : n4 = (ownedOf ts a1).length := by have := hB4.len; simp at this; omega
  subst hn4
  obtain ⟨g4, hg4, hg4', hW4⟩ := hB4.wr1
  have hxh := (hxf.trans hx7).trans hx8
  have hR2h := (hR2f.ext hx7).ext hx8
  repeat (first | refine WpL.cons ?_ | refine WpL.nil ?_ | refine WpC.seq ?_ | refine WpC.reg ?_ | refine WpC.ret ?_ | refine WpC.block ?_ | refine WpC.exit rfl ?_ | refine WpC.cond rfl ?_ | refine WpC.skip ?_ | refine WpD.cons ?_ | refine WpD.nil ?_)
  refine CallV.val (fun w' hw _ => eqIntS_vc _ _ _ _ w' (hR4.ext hw) (hR2h.ext hw) rfl) ?_
  repeat (first | refine WpL.cons ?_ | refine WpL.nil ?_ | refine WpC.seq ?_ | refine WpC.reg ?_ | refine WpC.ret ?_ | refine WpC.block ?_ | refine WpC.exit rfl ?_ | refine WpC.cond rfl ?_ | refine WpC.skip ?_ | refine WpD.cons ?_ | refine WpD.nil ?_)
  refine CallV.mem _ (fun w' hw _ => toNodeS_vc ts _ w' (hT.ext (hxh.trans hw)) hs) (fun x5 wi wj hx9 hx10 _ hT5 => ?_)
  have hxj := (hxh.trans hx9).trans hx10
  have hxhj := hx9.trans hx10
  repeat (first | refine WpL.cons ?_ | refine WpL.nil ?_ | refine WpC.seq ?_ | refine WpC.reg ?_ | refine WpC.ret ?_ | refine WpC.block ?_ | refine WpC.exit rfl ?_ | refine WpC.cond rfl ?_ | refine WpC.skip ?_ | refine WpD.cons ?_ | refine WpD.nil ?_)
  refine CallV.val (fun w' hw _ => eqNodeS_vc ts ts _ _ w' ((((hT3.tree.ext hx7).ext hx8).ext hxhj).ext hw) (hT5.tree.ext hw) rfl) ?_
  repeat (first | refine WpL.cons ?_ | refine WpL.nil ?_ | refine WpC.seq ?_ | refine WpC.reg ?_ | refine WpC.ret ?_ | refine WpC.block ?_ | refine WpC.exit rfl ?_ | refine WpC.cond rfl ?_ | refine WpC.skip ?_ | refine WpD.cons ?_ | refine WpD.nil ?_)
  have hsz6 := hx5.size
  have hsz66 := hx6.size
  have hszf := (hx7.trans hx8).size
  have hszj := hxhj.size
  -- the marks in the argument
  refine CallV.turn (Φ := fun v _ w' => v = .int .i64 (1 + (cntNds ts : Int)) ∧ ExcP (fun j => we.heap.size ≤ j ∧ j < wf.heap.size) wj w') (fun w' hw _ => ?_) (fun v w1 w2 hw1 ⟨e, hX⟩ => ?_)
  · exact (markNodeS_vc ts _ we.heap.size wf.heap.size 1 w' ((((hT3.ext hx7).ext hx8).ext hxhj).ext hw) (by have := hw.size; omega) (by omega) (by omega)).mono fun e w2 ⟨h1, h2, _⟩ => ⟨_, h1, rfl, (ExcP.of_ext hw).trans h2⟩
  subst e
  have hxl : Below w.heap.size w w2 := Below.trans hxj (hX.below hxj.size (by have := hxd.size; intro j hj; omega))
  repeat (first | refine WpL.cons ?_ | refine WpL.nil ?_ | refine WpC.seq ?_ | refine WpC.reg ?_ | refine WpC.ret ?_ | refine WpC.block ?_ | refine WpC.exit rfl ?_ | refine WpC.cond rfl ?_ | refine WpC.skip ?_ | refine WpD.cons ?_ | refine WpD.nil ?_)
  try (refine Br.intro (fun h => absurd (of_decide_eq_true h) (by omega)) (fun _ => ?_))
  repeat (first | refine WpL.cons ?_ | refine WpL.nil ?_ | refine WpC.seq ?_ | refine WpC.reg ?_ | refine WpC.ret ?_ | refine WpC.block ?_ | refine WpC.exit rfl ?_ | refine WpC.cond rfl ?_ | refine WpC.skip ?_ | refine WpD.cons ?_ | refine WpD.nil ?_)
  have hR2k : Row1 w2 _ _ := (hR2h.ext hxhj).agree (hI2.mono (Nat.zero_le _) (Nat.le_refl _)) (hX.agree (lo := 0) (hi := wd.heap.size) (by omega) (by intro j; omega))
  have hR4k : Row1 w2 _ _ := (hR4.ext hxhj).agree hI4 (hX.agree (by omega) (by have := hx7.size; intro j; omega))
  have hW4k : Wr1 w2 _ _ g4 := Wr1.agree (lo := wg.heap.size) (hi := wh.heap.size) (hW4.agree (lo := 0) (hi := wh.heap.size) (Agree.of_ext hxhj (Nat.le_refl _)) (fun h0 => ⟨Nat.zero_le _, hg4' h0⟩))
    (hX.agree (by omega) (by have := hx7.size; intro j; omega)) (fun h0 => ⟨hg4, hg4' h0⟩)
  refine CallV.val (fun w' hw _ => eqIntS_vc _ _ _ _ w' (hR4k.ext hw) (hR2k.ext hw) rfl) ?_
  repeat (first | refine WpL.cons ?_ | refine WpL.nil ?_ | refine WpC.seq ?_ | refine WpC.reg ?_ | refine WpC.ret ?_ | refine WpC.block ?_ | refine WpC.exit rfl ?_ | refine WpC.cond rfl ?_ | refine WpC.skip ?_ | refine WpD.cons ?_ | refine WpD.nil ?_)
  -- the marks in the result
  refine CallV.turn (Φ := fun v _ w' => v = .int .i64 (1 + ((ownedOf ts a1).length : Nat)) ∧ Exc g4 w2 w' ∧ Row1 w' (.slice ad4 (ownedOf ts a1).length cap4) (upI 1 (ownedOf ts a1).length)) (fun w' hw _ => ?_) (fun v w3 w4 hw3 ⟨e, hX4, hM⟩ => ?_)
  · exact (markIntS_vc _ _ g4 1 w' (hW4k.agree (lo := 0) (hi := w2.heap.size) (Agree.of_ext hw (Nat.le_refl _)) (fun h0 => ⟨Nat.zero_le _, by have := hg4' h0; have := hxhj.size; have := hX.size; omega⟩)) (by omega) (by omega) (by omega)).mono
      fun e w5 ⟨h1, h2, h3, _⟩ => ⟨_, h1, rfl, (Exc.of_ext hw).trans h2, h3⟩
  subst e
  have hxm : Below w.heap.size w w4 := Below.trans hxl (hX4.below (B := w.heap.size) (by have := hxf.size; have := hx7.size; omega) hxl.size)
  repeat (first | refine WpL.cons ?_ | refine WpL.nil ?_ | refine WpC.seq ?_ | refine WpC.reg ?_ | refine WpC.ret ?_ | refine WpC.block ?_ | refine WpC.exit rfl ?_ | refine WpC.cond rfl ?_ | refine WpC.skip ?_ | refine WpD.cons ?_ | refine WpD.nil ?_)
  refine CallV.val (fun w' hw _ => heldIntS_vc _ _ 1 w' (hM.ext hw) (by omega) (by omega) (by omega)) ?_
  repeat (first | refine WpL.cons ?_ | refine WpL.nil ?_ | refine WpC.seq ?_ | refine WpC.reg ?_ | refine WpC.ret ?_ | refine WpC.block ?_ | refine WpC.exit rfl ?_ | refine WpC.cond rfl ?_ | refine WpC.skip ?_ | refine WpD.cons ?_ | refine WpD.nil ?_)
  try (refine Br.intro (fun h => absurd (of_decide_eq_true h) (by omega)) (fun _ => ?_))
  repeat (first | refine WpL.cons ?_ | refine WpL.nil ?_ | refine WpC.seq ?_ | refine WpC.reg ?_ | refine WpC.ret ?_ | refine WpC.block ?_ | refine WpC.exit rfl ?_ | refine WpC.cond rfl ?_ | refine WpC.skip ?_ | refine WpD.cons ?_ | refine WpD.nil ?_)
  try (refine Br.no (by simp) ?_)
  repeat (first | refine WpL.cons ?_ | refine WpL.nil ?_ | refine WpC.seq ?_ | refine WpC.reg ?_ | refine WpC.ret ?_ | refine WpC.block ?_ | refine WpC.exit rfl ?_ | refine WpC.cond rfl ?_ | refine WpC.skip ?_ | refine WpD.cons ?_ | refine WpD.nil ?_)
  refine CallV.mem _ (fun w' hw _ => toNodeS_vc ts _ w' (hT.ext (Ext.trans' hxm (hw.mono hxm.size))) hs) (fun x6 wk wl hx11 hx12 _ hT6 => ?_)
  repeat (first | refine WpL.cons ?_ | refine WpL.nil ?_ | refine WpC.seq ?_ | refine WpC.reg ?_ | refine WpC.ret ?_ | refine WpC.block ?_ | refine WpC.exit rfl ?_ | refine WpC.cond rfl ?_ | refine WpC.skip ?_ | refine WpD.cons ?_ | refine WpD.nil ?_)
  refine CallV.mem _ (fun w' hw _ => iOwnedNodes_vc ts _ a1 w' (hT6.tree.ext hw) hs hwf) (fun x7 wm wn hx13 hx14 _ ⟨ad7, n7, cap7, e7, hB7⟩ => ?_)
  subst e7
  have hxmn := ((hx11.trans hx12).trans hx13).trans hx14
  have hR2m : Row1 w4 _ _ := hR2k.agree (hI2.mono (Nat.zero_le _) (Nat.le_refl _)) (hX4.agree (lo := 0) (hi := wd.heap.size) (by have := hX.size; omega) (.inr (by have := hx7.size; have := hx6.size; have := hx5.size; omega)))
  repeat (first | refine WpL.cons ?_ | refine WpL.nil ?_ | refine WpC.seq ?_ | refine WpC.reg ?_ | refine WpC.ret ?_ | refine WpC.block ?_ | refine WpC.exit rfl ?_ | refine WpC.cond rfl ?_ | refine WpC.skip ?_ | refine WpD.cons ?_ | refine WpD.nil ?_)
  refine CallV.val (fun w' hw _ => eqIntS_vc _ _ _ _ w' (hB7.row1.ext hw) ((hR2m.ext hxmn).ext hw) rfl) ?_
  repeat (first | refine WpL.cons ?_ | refine WpL.nil ?_ | refine WpC.seq ?_ | refine WpC.reg ?_ | refine WpC.ret ?_ | refine WpC.block ?_ | refine WpC.exit rfl ?_ | refine WpC.cond rfl ?_ | refine WpC.skip ?_ | refine WpD.cons ?_ | refine WpD.nil ?_)
  refine CallV.val (fun w' hw _ => heldIntS_vc _ _ 1 w' ((hM.ext hxmn).ext hw) (by omega) (by omega) (by omega)) ?_
  repeat (first | refine WpL.cons ?_ | refine WpL.nil ?_ | refine WpC.seq ?_ | refine WpC.reg ?_ | refine WpC.ret ?_ | refine WpC.block ?_ | refine WpC.exit rfl ?_ | refine WpC.cond rfl ?_ | refine WpC.skip ?_ | refine WpD.cons ?_ | refine WpD.nil ?_)
  try (refine Br.intro (fun h => absurd (of_decide_eq_true h) (by omega)) (fun _ => ?_))
  repeat (first | refine WpL.cons ?_ | refine WpL.nil ?_ | refine WpC.seq ?_ | refine WpC.reg ?_ | refine WpC.ret ?_ | refine WpC.block ?_ | refine WpC.exit rfl ?_ | refine WpC.cond rfl ?_ | refine WpC.skip ?_ | refine WpD.cons ?_ | refine WpD.nil ?_)
  try (refine Br.no (by simp) ?_)
  repeat (first | refine WpL.cons ?_ | refine WpL.nil ?_ | refine WpC.seq ?_ | refine WpC.reg ?_ | refine WpC.ret ?_ | refine WpC.block ?_ | refine WpC.exit rfl ?_ | refine WpC.cond rfl ?_ | refine WpC.skip ?_ | refine WpD.cons ?_ | refine WpD.nil ?_)
  exact EndV.val rfl (Ext.trans' hxm (hxmn.mono hxm.size))

set_option maxRecDepth 100000 in
theorem lifted (os : Os) (started : os.Started) (H : Type) (enc : TypeId × Value → H) :
    ReturnsInHanded {} Try.checked os 7 .any (Rows.fnExactOwnedNodesSpec.pre6 enc Try.prog Try.f7 Rows.fnExactOwnedNodesRow.domain false) (Rows.fnExactOwnedNodesSpec.post enc Try.prog Try.f7 false true false false) := by
  refine returnsInHanded_of_change (C := Try.checked) own started (by kernel_rfl) Try.func7
    (ChangeSpec.witness6 (enc := enc) (C := Try.checked) false ⟨#[], #[.slice none 0 0, .int .i64 0], []⟩ 8 (by kernel_rfl) (by kernel_rfl) (by kernel_rfl) (by kernel_rfl)) ?_
  intro W base args ds gs before hval0 hW hcnd _
  have hval : ∀ (j : Nat) t v, Try.f7.params[j]? = some t → args[j]? = some v → Value.okWide Try.prog W .any base t v := hval0
  have hW' := hW
  have hltb : ∀ x ∈ before, x.block < W.heap.size := fun x hx => hW.lt x hx
  obtain ⟨p, q, hA0, hV, rfl, hfz, hnd⟩ := hW
  have hA : DataW.TrodAll enc Try.prog W 0 (fun _ => true) true Try.f7.params.toList args.toList ds p := hA0
  have hlt : ∀ x ∈ p, x.block < W.heap.size := fun x hx => hltb x (List.mem_append_left _ hx)
  have hAll := hA
  rw [Try.params7] at hA hval
  obtain ⟨v0, vs0, d0, ds0, p0, q0, hargs, rfl, rfl, h0, r0⟩ := trodAll_cons hA
  obtain ⟨v1, vs1, d1, ds1, p1, q1, rfl, rfl, rfl, h1, r1⟩ := trodAll_cons r0
  obtain ⟨rfl, rfl, rfl⟩ := trodAll_nil r1
  obtain rfl : args = #[v0, v1] := by cases args; simp_all
  obtain ⟨rfl, rfl⟩ := trodVars_none hV
  clear hA0 hval0
  have hlt0 : ∀ x ∈ p0, x.block < W.heap.size := fun x hx => hlt x (by simp [hx])
  have w0 := open_nodes (hval 0 28 v0 rfl rfl) h0 hlt0
  obtain ⟨a1, hv1, _, _, w1⟩ := open_int Try.underlying3 (hval 1 3 v1 rfl rfl) h1
  subst hv1
  simp only [List.append_nil] at hW' hltb hAll
  refine (walk v0 a1 w1 W w0).mono fun e W' ⟨he, hg⟩ => ?_
  subst he
  exact ⟨_, rfl, post_of_below (pa := _) (pv := []) hW' (fun _ _ _ => (trodAll_cons_mk (shut_bool Try.underlying4 _) trodAll_mk0))
    (fun sp hsp => trodAll_stays laidOut hg (by kernel_rfl) hAll hltb sp hsp) (fun _ _ => rfl) (by simp) hg (ok_one (by kernel_rfl) rfl (okWide_bool_mk Try.underlying4 _))⟩

theorem over : Rows.fnExactOwnedNodesRow.holds Try.pinned (OpenSpec.ofChange Rows.fnExactOwnedNodesSpec) :=
  OpenClaim.holds_of_wide 7 Try.f7 rfl rfl rfl rfl rfl rfl rfl ⟨rfl, rfl, rfl, rfl, rfl⟩ rfl rfl rfl rfl rfl (by kernel_rfl) Try.func7 (by kernel_rfl)
    (of_decide_eq_true (by kernel_rfl)) (by unfold Func.isWrapper; first | (rw [if_pos (by decide +kernel)]; kernel_rfl) | (rw [if_neg (by decide +kernel)]; exact ⟨rfl, rfl⟩))
    (fun os started H enc _ => lifted os started H enc)

/-- The statement. -/
theorem proved : Rows.FnExactOwnedNodesSaid :=
  over
#print axioms proved
end Go.Proofs.Ytlnlpholhnbifaa.fnExactOwnedNodes
