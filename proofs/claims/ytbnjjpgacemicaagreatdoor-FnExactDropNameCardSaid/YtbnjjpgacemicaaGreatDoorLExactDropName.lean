/-
  DropName of the program is DropName of the reference, in memory of its own.
  Conditions: none.
-/
import Derived.Test.YtbnjjpgacemicaaGreatDoorDrops
import Derived.Test.YtbnjjpgacemicaaGreatDoorNodeO
import Derived.Test.YtbnjjpgacemicaaGreatDoorHeldN
import Derived.Test.YtbnjjpgacemicaaGreatDoorFrameD
import Derived.Test.YtbnjjpgacemicaaGreatDoorTie
import Derived.Test.YtbnjjpgacemicaaGreatDoorCards
namespace Go.Proofs.YtbnjjpgacemicaaGreatDoor.fnExactDropName
open Go.ChangeShapes Go.WideShapes Go.ChangeAt Go.RowKit
open Go.ChangeMaps (open_string)
set_option linter.unusedVariables false
open Vc
attribute [local irreducible] WpC WpL WpD WpE WpB CallV QCallV Made AppV Ld LdN Ix EndV I64 MutN Mut CellsAt
set_option maxHeartbeats 2000000 in
theorem walk (v0 : Value) (a1 : Cr) (w1 : a1.wf) (a2 : ByteArray) (w2 : a2.size ≤ maxLen) (w : World) (w0 : ∃ ts, Tree w v0 ts ∧ ∀ n ∈ ts, n.wf) (hM0 : ML w) :
    Calls Tryz.prog 3 #[v0, a1.v, .string a2] w fun e w' => e = .returned (.bool true) ∧ Below w.heap.size w w' := by
  obtain ⟨ts, hT0, hwf⟩ := w0
  refine calls_of cx_ok Tryz.func3 Tryz.ntmps3 Tryz.results3 rfl rfl ?_
  repeat (first | refine jC ?_ | refine jN ?_ | refine jS ?_ | refine jR ?_ | refine jT ?_ | refine jB ?_ | refine jX rfl ?_ | refine jY rfl ?_ | refine jK ?_ | refine jD ?_ | refine jE ?_)
  intro b hb
  repeat (first | refine jC ?_ | refine jN ?_ | refine jS ?_ | refine jR ?_ | refine jT ?_ | refine jB ?_ | refine jX rfl ?_ | refine jY rfl ?_ | refine jK ?_ | refine jD ?_ | refine jE ?_)
  refine Br.intro (fun h => ?_) (fun h => ?_)
  · repeat (first | refine jC ?_ | refine jN ?_ | refine jS ?_ | refine jR ?_ | refine jT ?_ | refine jB ?_ | refine jX rfl ?_ | refine jY rfl ?_ | refine jK ?_ | refine jD ?_ | refine jE ?_)
    exact EndV.val rfl (Ext.refl _)
  have hp2 : a2.size ≤ 1048600 := by have := of_decide_eq_false h; omega
  repeat (first | refine jC ?_ | refine jN ?_ | refine jS ?_ | refine jR ?_ | refine jT ?_ | refine jB ?_ | refine jX rfl ?_ | refine jY rfl ?_ | refine jK ?_ | refine jD ?_ | refine jE ?_)
  refine CallV.val (fun w' hw _ => szNodeS_vc ts _ _ w' (hT0.ext hw) hwf (by omega) (by omega)) ?_
  repeat (first | refine jC ?_ | refine jN ?_ | refine jS ?_ | refine jR ?_ | refine jT ?_ | refine jB ?_ | refine jX rfl ?_ | refine jY rfl ?_ | refine jK ?_ | refine jD ?_ | refine jE ?_)
  refine Br.intro (fun h => ?_) (fun h => ?_)
  · repeat (first | refine jC ?_ | refine jN ?_ | refine jS ?_ | refine jR ?_ | refine jT ?_ | refine jB ?_ | refine jX rfl ?_ | refine jY rfl ?_ | refine jK ?_ | refine jD ?_ | refine jE ?_)
    exact EndV.val rfl (Ext.refl _)
  have hs := szNds_sized (of_decide_eq_false h)
  have hcnt := szNds_cnt (of_decide_eq_false h)
  repeat (first | refine jC ?_ | refine jN ?_ | refine jS ?_ | refine jR ?_ | refine jT ?_ | refine jB ?_ | refine jX rfl ?_ | refine jY rfl ?_ | refine jK ?_ | refine jD ?_ | refine jE ?_)
  refine WpC.plain (fun W hx0 hO => ?_)
  have hcb : CellsAt W b 0 [.int .i64 a1.real, .int .i64 a1.acts, .int .i64 a1.saved, .int .i64 a1.groups] := CellsAt.of_block hO.blk0 fun i v hi => by simpa using hi
  have hT := hT0.ext hx0
  have hM := hM0.ext hx0
  refine WpC.drawE (.st 0 (.st 2 (.st 4 (.ef 1 (.ef 3 (.ef 5 (.st 6 (.st 7 (.st 8 (.st 9 (.st 10 .done))))) .done) .done) .done)))) [(0, .mv), (1, .ef), (3, .ef), (4, .mv), (5, .ef), (6, .mv), (9, .mv), (10, .mv)] (by kernel_rfl) ?_
  repeat (first | refine uM ?_ | refine uR ?_ | refine uE ?_ | refine uB ?_ | refine uA ?_ | refine uD ?_ | refine jC ?_ | refine jN ?_ | refine jS ?_ | refine jR ?_ | refine jT ?_ | refine jB ?_ | refine jX rfl ?_ | refine jY rfl ?_ | refine jK ?_ | refine jD ?_ | refine jE ?_)
  refine LdN.mk hcb rfl ?_
  repeat (first | refine uM ?_ | refine uR ?_ | refine uE ?_ | refine uB ?_ | refine uA ?_ | refine uD ?_ | refine jC ?_ | refine jN ?_ | refine jS ?_ | refine jR ?_ | refine jT ?_ | refine jB ?_ | refine jX rfl ?_ | refine jY rfl ?_ | refine jK ?_ | refine jD ?_ | refine jE ?_)
  refine CallV.mem _ (fun w' hw _ => toNodeS_vc ts _ w' (hT.ext hw) hs) (fun x1 wa wb hx1 hx2 _ hT1 => ?_)
  have hxb := hx1.trans hx2
  have hA1_2 : Ask wb x1 ts a2 := ⟨hT1.tree, hs, hwf, hp2, hM.ext hxb⟩
  refine ⟨Keep.ext hxb, ?_⟩
  repeat (first | refine uM ?_ | refine uR ?_ | refine uE ?_ | refine uB ?_ | refine uA ?_ | refine uD ?_ | refine jC ?_ | refine jN ?_ | refine jS ?_ | refine jR ?_ | refine jT ?_ | refine jB ?_ | refine jX rfl ?_ | refine jY rfl ?_ | refine jK ?_ | refine jD ?_ | refine jE ?_)
  refine CallV.val (fun w' hw _ => toCred_any a1 w') ?_
  refine ⟨Keep.ext hxb, ?_⟩
  repeat (first | refine uM ?_ | refine uR ?_ | refine uE ?_ | refine uB ?_ | refine uA ?_ | refine uD ?_ | refine jC ?_ | refine jN ?_ | refine jS ?_ | refine jR ?_ | refine jT ?_ | refine jB ?_ | refine jX rfl ?_ | refine jY rfl ?_ | refine jK ?_ | refine jD ?_ | refine jE ?_)
  refine CallV.mem _ (fun w' hw _ => (sDropName_vc ts _ a1 a2 w' (hA1_2.ext hw)).out) (fun x2 wc wd hx3 hx4 _ ⟨u2, e2, hB2⟩ => ?_)
  subst e2
  have hxd := (hxb.trans hx3).trans hx4
  have hU2 := hB2.treeW
  refine ⟨Keep.ext hxd, ?_⟩
  repeat (first | refine uM ?_ | refine uR ?_ | refine uE ?_ | refine uB ?_ | refine uA ?_ | refine uD ?_ | refine jC ?_ | refine jN ?_ | refine jS ?_ | refine jR ?_ | refine jT ?_ | refine jB ?_ | refine jX rfl ?_ | refine jY rfl ?_ | refine jK ?_ | refine jD ?_ | refine jE ?_)
  refine CallV.mem _ (fun w' hw _ => toNodeS_vc ts _ w' (hT.ext (hxd.trans hw)) hs) (fun x3 we wf hx5 hx6 _ hT3 => ?_)
  have hxf := (hxd.trans hx5).trans hx6
  have hA3_2 : Ask wf x3 ts a2 := ⟨hT3.tree, hs, hwf, hp2, hM.ext hxf⟩
  repeat (first | refine jC ?_ | refine jN ?_ | refine jS ?_ | refine jR ?_ | refine jT ?_ | refine jB ?_ | refine jX rfl ?_ | refine jY rfl ?_ | refine jK ?_ | refine jD ?_ | refine jE ?_)
  refine LdN.mk (hcb.ext hxf) rfl ?_
  repeat (first | refine jC ?_ | refine jN ?_ | refine jS ?_ | refine jR ?_ | refine jT ?_ | refine jB ?_ | refine jX rfl ?_ | refine jY rfl ?_ | refine jK ?_ | refine jD ?_ | refine jE ?_)
  refine CallV.val (fun w' hw _ => toCred_any a1 w') ?_
  repeat (first | refine jC ?_ | refine jN ?_ | refine jS ?_ | refine jR ?_ | refine jT ?_ | refine jB ?_ | refine jX rfl ?_ | refine jY rfl ?_ | refine jK ?_ | refine jD ?_ | refine jE ?_)
  refine CallV.mem _ (fun w' hw _ => (iDropName_vc ts _ a1 a2 w' (hA3_2.ext hw)).out) (fun x4 wg wh hx7 hx8 _ ⟨u4, e4, hB4⟩ => ?_)
  subst e4
  have hxh := (hxf.trans hx7).trans hx8
  have hU4 := hB4.treeW
  have hU2h := hU2.ext (((hx5.trans hx6).trans hx7).trans hx8)
  have hbd := dropN_cnt ts a1 a2 hs hcnt
  generalize hR : dropNF (abvF ts a1 a2) ts a1 = R at *
  repeat (first | refine jC ?_ | refine jN ?_ | refine jS ?_ | refine jR ?_ | refine jT ?_ | refine jB ?_ | refine jX rfl ?_ | refine jY rfl ?_ | refine jK ?_ | refine jD ?_ | refine jE ?_)
  refine CallV.val (fun w' hw _ => eqNodeS_vc R.1 R.1 _ _ w' (hU4.tree.ext hw) (hU2h.tree.ext hw) rfl) ?_
  repeat (first | refine jC ?_ | refine jN ?_ | refine jS ?_ | refine jR ?_ | refine jT ?_ | refine jB ?_ | refine jX rfl ?_ | refine jY rfl ?_ | refine jK ?_ | refine jD ?_ | refine jE ?_)
  repeat (refine Br.no (by simp) ?_; repeat (first | refine jC ?_ | refine jN ?_ | refine jS ?_ | refine jR ?_ | refine jT ?_ | refine jB ?_ | refine jX rfl ?_ | refine jY rfl ?_ | refine jK ?_ | refine jD ?_ | refine jE ?_))
  refine CallV.mem _ (fun w' hw _ => toNodeS_vc ts _ w' (hT.ext (hxh.trans hw)) hs) (fun x5 wi wj hx9 hx10 _ hT5 => ?_)
  have hxhj := hx9.trans hx10
  have hxj := hxh.trans hxhj
  repeat (first | refine jC ?_ | refine jN ?_ | refine jS ?_ | refine jR ?_ | refine jT ?_ | refine jB ?_ | refine jX rfl ?_ | refine jY rfl ?_ | refine jK ?_ | refine jD ?_ | refine jE ?_)
  refine CallV.val (fun w' hw _ => eqNodeS_vc ts ts _ _ w' ((hT3.ext ((hx7.trans hx8).trans hxhj)).tree.ext hw) (hT5.tree.ext hw) rfl) ?_
  repeat (first | refine jC ?_ | refine jN ?_ | refine jS ?_ | refine jR ?_ | refine jT ?_ | refine jB ?_ | refine jX rfl ?_ | refine jY rfl ?_ | refine jK ?_ | refine jD ?_ | refine jE ?_)
  have z1 := hx3.size
  have z2 := hx4.size
  have z3 := hx5.size
  have z4 := hx6.size
  have z5 := hx7.size
  have z6 := hx8.size
  have z7 := hxhj.size
  have z8 := hxb.size
  have z9 := hxd.size
  refine CallV.turn (Φ := fun v _ w' => v = .int .i64 (1 + (cntNds ts : Int)) ∧ ExcP (fun j => we.heap.size ≤ j ∧ j < wf.heap.size) wj w') (fun w' hw _ => ?_) (fun v wk w2 hwk ⟨e, hX⟩ => ?_)
  · exact (markNodeS_vc ts _ we.heap.size wf.heap.size 1 w' ((hT3.ext ((hx7.trans hx8).trans hxhj)).ext hw) (by have := hw.size; omega) (by omega) (by omega)).mono fun e w2 ⟨h1, h2, _⟩ => ⟨_, h1, rfl, (ExcP.of_ext hw).trans h2⟩
  subst e
  have zX := hX.size
  have hxl : Ext W w2 := Below.trans hxj (hX.below (by have := hxj.size; exact this) (by intro j hj; omega))
  repeat (first | refine jC ?_ | refine jN ?_ | refine jS ?_ | refine jR ?_ | refine jT ?_ | refine jB ?_ | refine jX rfl ?_ | refine jY rfl ?_ | refine jK ?_ | refine jD ?_ | refine jE ?_)
  try (refine Br.intro (fun h => absurd (of_decide_eq_true h) (by omega)) (fun _ => ?_))
  repeat (first | refine jC ?_ | refine jN ?_ | refine jS ?_ | refine jR ?_ | refine jT ?_ | refine jB ?_ | refine jX rfl ?_ | refine jY rfl ?_ | refine jK ?_ | refine jD ?_ | refine jE ?_)
  have hU4k : TreeW _ _ w2 u4 R.1 := (hU4.ext hxhj).agree (hX.agree (by omega) (by intro j; omega))
  have hU2k : TreeW _ _ w2 u2 R.1 := (hU2h.ext hxhj).agree (hX.agree (by omega) (by intro j; omega))
  refine CallV.val (fun w' hw _ => eqNodeS_vc R.1 R.1 _ _ w' (hU4k.tree.ext hw) (hU2k.tree.ext hw) rfl) ?_
  repeat (first | refine jC ?_ | refine jN ?_ | refine jS ?_ | refine jR ?_ | refine jT ?_ | refine jB ?_ | refine jX rfl ?_ | refine jY rfl ?_ | refine jK ?_ | refine jD ?_ | refine jE ?_)
  repeat (refine Br.no (by simp) ?_; repeat (first | refine jC ?_ | refine jN ?_ | refine jS ?_ | refine jR ?_ | refine jT ?_ | refine jB ?_ | refine jX rfl ?_ | refine jY rfl ?_ | refine jK ?_ | refine jD ?_ | refine jE ?_))
  refine CallV.turn (Φ := fun v _ w' => v = .int .i64 (1 + (cntNds R.1 : Int)) ∧ ExcP (fun j => wg.heap.size ≤ j ∧ j < wh.heap.size) w2 w' ∧ TreeW wg.heap.size wh.heap.size w' u4 (markNds R.1 1)) (fun w' hw _ => ?_) (fun v w3 w4 hw3 ⟨e, hX4, hMk⟩ => ?_)
  · exact (markNodeS_vc R.1 _ wg.heap.size wh.heap.size 1 w' (hU4k.ext hw) (by have := hw.size; omega) (by omega) (by omega)).mono fun e w5 ⟨h1, h2, h3⟩ => ⟨_, h1, rfl, (ExcP.of_ext hw).trans h2, h3⟩
  subst e
  have zX4 := hX4.size
  have hxm : Ext W w4 := Below.trans hxl (hX4.below (by have := hxl.size; exact this) (by intro j hj; omega))
  repeat (first | refine jC ?_ | refine jN ?_ | refine jS ?_ | refine jR ?_ | refine jT ?_ | refine jB ?_ | refine jX rfl ?_ | refine jY rfl ?_ | refine jK ?_ | refine jD ?_ | refine jE ?_)
  refine CallV.val (fun w' hw _ => heldNodeS_vc R.1 _ 1 w' (hMk.tree.ext hw) (by omega) (by omega)) ?_
  repeat (first | refine jC ?_ | refine jN ?_ | refine jS ?_ | refine jR ?_ | refine jT ?_ | refine jB ?_ | refine jX rfl ?_ | refine jY rfl ?_ | refine jK ?_ | refine jD ?_ | refine jE ?_)
  try (refine Br.intro (fun h => absurd (of_decide_eq_true h) (by omega)) (fun _ => ?_))
  repeat (first | refine jC ?_ | refine jN ?_ | refine jS ?_ | refine jR ?_ | refine jT ?_ | refine jB ?_ | refine jX rfl ?_ | refine jY rfl ?_ | refine jK ?_ | refine jD ?_ | refine jE ?_)
  try (refine Br.no (by simp) ?_)
  repeat (first | refine jC ?_ | refine jN ?_ | refine jS ?_ | refine jR ?_ | refine jT ?_ | refine jB ?_ | refine jX rfl ?_ | refine jY rfl ?_ | refine jK ?_ | refine jD ?_ | refine jE ?_)
  refine WpC.drawE (.st 0 (.st 2 (.st 4 (.ef 1 (.ef 3 (.ef 5 (.st 6 (.st 7 (.st 8 (.st 9 (.st 10 .done))))) .done) .done) .done)))) [(0, .mv), (1, .ef), (3, .ef), (4, .mv), (5, .ef), (6, .mv), (9, .mv), (10, .mv)] (by kernel_rfl) ?_
  repeat (first | refine uM ?_ | refine uR ?_ | refine uE ?_ | refine uB ?_ | refine uA ?_ | refine uD ?_ | refine jC ?_ | refine jN ?_ | refine jS ?_ | refine jR ?_ | refine jT ?_ | refine jB ?_ | refine jX rfl ?_ | refine jY rfl ?_ | refine jK ?_ | refine jD ?_ | refine jE ?_)
  refine LdN.mk (hcb.ext hxm) rfl ?_
  repeat (first | refine uM ?_ | refine uR ?_ | refine uE ?_ | refine uB ?_ | refine uA ?_ | refine uD ?_ | refine jC ?_ | refine jN ?_ | refine jS ?_ | refine jR ?_ | refine jT ?_ | refine jB ?_ | refine jX rfl ?_ | refine jY rfl ?_ | refine jK ?_ | refine jD ?_ | refine jE ?_)
  refine CallV.mem _ (fun w' hw _ => toNodeS_vc ts _ w' (hT.ext (hxm.trans hw)) hs) (fun x6 wp wq hx11 hx12 _ hT6 => ?_)
  have hxq := (hxm.trans hx11).trans hx12
  have hA6_2 : Ask wq x6 ts a2 := ⟨hT6.tree, hs, hwf, hp2, hM.ext hxq⟩
  refine ⟨Keep.ext (hx11.trans hx12), ?_⟩
  repeat (first | refine uM ?_ | refine uR ?_ | refine uE ?_ | refine uB ?_ | refine uA ?_ | refine uD ?_ | refine jC ?_ | refine jN ?_ | refine jS ?_ | refine jR ?_ | refine jT ?_ | refine jB ?_ | refine jX rfl ?_ | refine jY rfl ?_ | refine jK ?_ | refine jD ?_ | refine jE ?_)
  refine CallV.val (fun w' hw _ => toCred_any a1 w') ?_
  refine ⟨Keep.ext (hx11.trans hx12), ?_⟩
  repeat (first | refine uM ?_ | refine uR ?_ | refine uE ?_ | refine uB ?_ | refine uA ?_ | refine uD ?_ | refine jC ?_ | refine jN ?_ | refine jS ?_ | refine jR ?_ | refine jT ?_ | refine jB ?_ | refine jX rfl ?_ | refine jY rfl ?_ | refine jK ?_ | refine jD ?_ | refine jE ?_)
  refine CallV.mem _ (fun w' hw _ => (iDropName_vc ts _ a1 a2 w' (hA6_2.ext hw)).out) (fun x7 wr ws hx13 hx14 _ ⟨u7, e7, hB7⟩ => ?_)
  subst e7
  have hxms := ((hx11.trans hx12).trans hx13).trans hx14
  refine ⟨Keep.ext hxms, ?_⟩
  rw [hR] at hB7 ⊢
  repeat (first | refine uM ?_ | refine uR ?_ | refine uE ?_ | refine uB ?_ | refine uA ?_ | refine uD ?_ | refine jC ?_ | refine jN ?_ | refine jS ?_ | refine jR ?_ | refine jT ?_ | refine jB ?_ | refine jX rfl ?_ | refine jY rfl ?_ | refine jK ?_ | refine jD ?_ | refine jE ?_)
  have hU2m : TreeW _ _ w4 u2 R.1 := hU2k.agree (hX4.agree (by omega) (by intro j; omega))
  refine CallV.val (fun w' hw _ => eqNodeS_vc R.1 R.1 _ _ w' (hB7.tree.ext hw) ((hU2m.ext hxms).tree.ext hw) rfl) ?_
  repeat (first | refine jC ?_ | refine jN ?_ | refine jS ?_ | refine jR ?_ | refine jT ?_ | refine jB ?_ | refine jX rfl ?_ | refine jY rfl ?_ | refine jK ?_ | refine jD ?_ | refine jE ?_)
  repeat (refine Br.no (by simp) ?_; repeat (first | refine jC ?_ | refine jN ?_ | refine jS ?_ | refine jR ?_ | refine jT ?_ | refine jB ?_ | refine jX rfl ?_ | refine jY rfl ?_ | refine jK ?_ | refine jD ?_ | refine jE ?_))
  refine CallV.val (fun w' hw _ => heldNodeS_vc R.1 _ 1 w' ((hMk.ext hxms).tree.ext hw) (by omega) (by omega)) ?_
  repeat (first | refine jC ?_ | refine jN ?_ | refine jS ?_ | refine jR ?_ | refine jT ?_ | refine jB ?_ | refine jX rfl ?_ | refine jY rfl ?_ | refine jK ?_ | refine jD ?_ | refine jE ?_)
  try (refine Br.intro (fun h => absurd (of_decide_eq_true h) (by omega)) (fun _ => ?_))
  repeat (first | refine jC ?_ | refine jN ?_ | refine jS ?_ | refine jR ?_ | refine jT ?_ | refine jB ?_ | refine jX rfl ?_ | refine jY rfl ?_ | refine jK ?_ | refine jD ?_ | refine jE ?_)
  try (refine Br.no (by simp) ?_)
  repeat (first | refine jC ?_ | refine jN ?_ | refine jS ?_ | refine jR ?_ | refine jT ?_ | refine jB ?_ | refine jX rfl ?_ | refine jY rfl ?_ | refine jK ?_ | refine jD ?_ | refine jE ?_)
  exact EndV.val rfl ((hx0.trans hxm).trans hxms)

set_option maxRecDepth 100000 in
theorem lifted (os : Os) (started : os.Started) (H : Type) (enc : TypeId × Value → H) :
    ReturnsInHanded {} Tryz.checked os 3 .any (fun w args => (Rows.fnExactDropNameSpec.pre enc Tryz.prog Tryz.f3 Rows.fnExactDropNameRow.domain false w args ∧ laidMetH Tryz.prog Rows.fnExactDropNameRow.laid w) ∧ sizedMet enc Tryz.prog Tryz.f3 (OpenSpec.ofChange Rows.fnExactDropNameSpec) false w args) (Rows.fnExactDropNameSpec.post enc Tryz.prog Tryz.f3 false true false false) := by
  refine returnsIn_and_shaped (C := Tryz.checked) (X := fun w _ => laidMetH Tryz.prog Rows.fnExactDropNameRow.laid w) own started (by kernel_rfl) Tryz.func3
    (ChangeSpec.witness_shaped (enc := enc) (C := Tryz.checked) (os := os) (X := fun w _ => laidMetH Tryz.prog Rows.fnExactDropNameRow.laid w) false (World.laidAll Tryz.prog os Rows.fnExactDropNameRow.laid) #[.slice none 0 0, Value.agg #[.int .i64 0, .int .i64 0, .int .i64 0, .int .i64 0], .string ByteArray.empty] 8 (World.laidAll_os _ _ _)
      (World.shaped_of_ZipB (by kernel_rfl) (by kernel_rfl)) (by kernel_rfl) (by kernel_rfl) (by kernel_rfl)
      (by rw [MakeChecks.laidMetH_plain _ _ _ (by kernel_rfl)]; exact laidMet_laidAll _ (by kernel_rfl) (by kernel_rfl))) ?_
  intro W base args ds gs before hval0 hW hsh
  have hval : ∀ (j : Nat) t v, Tryz.f3.params[j]? = some t → args[j]? = some v → Value.okWide Tryz.prog W .any base t v := hval0
  have hW' := hW
  have hltb : ∀ x ∈ before, x.block < W.heap.size := fun x hx => hW.lt x hx
  obtain ⟨p, q, hA0, hV, rfl, hfz, hnd⟩ := hW
  have hA : DataW.TrodAll enc Tryz.prog W 0 (fun _ => true) true Tryz.f3.params.toList args.toList ds p := hA0
  have hlt : ∀ x ∈ p, x.block < W.heap.size := fun x hx => hltb x (List.mem_append_left _ hx)
  have hAll := hA
  rw [Tryz.params3] at hA hval
  obtain ⟨v0, vs0, d0, ds0, p0, q0, hargs, rfl, rfl, h0, r0⟩ := trodAll_cons hA
  obtain ⟨v1, vs1, d1, ds1, p1, q1, rfl, rfl, rfl, h1, r1⟩ := trodAll_cons r0
  obtain ⟨v2, vs2, d2, ds2, p2, q2, rfl, rfl, rfl, h2, r2⟩ := trodAll_cons r1
  obtain ⟨rfl, rfl, rfl⟩ := trodAll_nil r2
  obtain rfl : args = #[v0, v1, v2] := by cases args; simp_all
  obtain ⟨rfl, rfl⟩ := trodVars_none hV
  clear hA0 hval0
  have hlt0 : ∀ x ∈ p0, x.block < W.heap.size := fun x hx => hlt x (by simp [hx])
  have w0 := open_nodes (hval 0 22 v0 rfl rfl) h0 hlt0
  obtain ⟨a1, hv1, w1⟩ := open_cred (hval 1 24 v1 rfl rfl) h1
  subst hv1
  obtain ⟨a2, hv2, _, _, w2⟩ := open_string Tryz.underlying9 (hval 2 9 v2 rfl rfl) h2
  subst hv2
  simp only [List.append_nil] at hW' hltb hAll
  refine (walk v0 a1 w1 a2 w2 W w0 (ml_of hsh)).mono fun e W' ⟨he, hg⟩ => ?_
  subst he
  exact ⟨_, rfl, post_of_below (pa := _) (pv := []) hW' (fun _ _ _ => (trodAll_cons_mk (shut_bool Tryz.underlying4 _) trodAll_mk0))
    (fun sp hsp => trodAll_stays laidOut hg (by kernel_rfl) hAll hltb sp hsp) (fun _ _ => rfl) (by simp) hg (ok_one (by kernel_rfl) rfl (okWide_bool_mk Tryz.underlying4 _))⟩

theorem over : Rows.fnExactDropNameRow.holds Tryz.pinned (OpenSpec.ofChange Rows.fnExactDropNameSpec) :=
  OpenClaim.holds_of_wide 3 Tryz.f3 rfl rfl rfl rfl rfl rfl rfl ⟨rfl, rfl, rfl, rfl, rfl⟩ rfl rfl rfl rfl rfl (by kernel_rfl) Tryz.func3 (by kernel_rfl)
    (of_decide_eq_true (by kernel_rfl)) (by unfold Func.isWrapper; first | (rw [if_pos (by decide +kernel)]; kernel_rfl) | (rw [if_neg (by decide +kernel)]; exact ⟨rfl, rfl⟩))
    (fun os started H enc _ => lifted os started H enc)


/-- The statement. -/
theorem proved : Rows.FnExactDropNameCardSaid :=
  Claim7.holds_tied_plain_at .later [] [.data, .pinned] true (true, "853babf7f4b1fb43098aa917b59561aca5afb03885ec0f9804264bb03d2e8c4e") false over (fun _ h => by cases h) (by kernel_rfl) (fun _ h => by cases h) fnExactDropName_row_tie rfl ⟨rfl, rfl⟩ (by kernel_rfl) rfl
    (fun f fn hf hfn => by
      obtain rfl : f = 3 := Option.some.inj ((show Tryz.prog.funcNamed Rows.fnExactDropNameRow.func = some 3 by kernel_rfl).symm.trans hf) |>.symm
      obtain rfl : fn = Tryz.f3 := (Option.some.inj (Tryz.func3.symm.trans hfn)).symm
      exact ⟨by kernel_rfl, fun j t ht => by
        rw [Tryz.params3] at ht
        have hm : t ∈ [22, 24, 9] := by simpa using Array.mem_of_getElem? ht
        have hall : ([22, 24, 9].all fun u => !Tryz.prog.wantsStandIn u) = true := by kernel_rfl
        exact (show Tryz.prog.wantsStandIn t = false by simpa using List.all_eq_true.1 hall t hm)⟩)
    (by kernel_rfl)
#print axioms proved
end Go.Proofs.YtbnjjpgacemicaaGreatDoor.fnExactDropName
