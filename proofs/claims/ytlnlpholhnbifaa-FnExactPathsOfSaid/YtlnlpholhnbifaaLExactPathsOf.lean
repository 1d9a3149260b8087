/-
  PathsOf of the program is PathsOf of the reference, in memory of its own.
  Conditions: none.
-/
import Derived.Test.YtlnlpholhnbifaaPaths
import Derived.Test.YtlnlpholhnbifaaMarkN
import Derived.Test.YtlnlpholhnbifaaNodeO
namespace Go.Proofs.Ytlnlpholhnbifaa.fnExactPathsOf
open Go.ChangeShapes Go.WideShapes Go.ChangeAt Go.RowKit
open Go.ChangeMaps (open_string)
set_option linter.unusedVariables false
open Vc
attribute [local irreducible] WpC WpL WpD WpE WpB CallV QCallV Made AppV Ld LdN Ix EndV I64 MutN Mut CellsAt
set_option maxHeartbeats 1000000 in
theorem walk (v0 : Value) (w : World) (w0 : ∃ ts, Tree w v0 ts ∧ ∀ n ∈ ts, n.wf) :
    Calls Try.prog 8 #[v0] w fun e w' => e = .returned (.bool true) ∧ Below w.heap.size w w' := by
  obtain ⟨ts, hT, hwf⟩ := w0
  have hlen := fun hs : Sized ts => pathsOfF_len (ts := ts) fun n hn => (hs.2 n hn).1
  refine calls_of cx_ok Try.func8 Try.ntmps8 Try.results8 rfl rfl ?_
  repeat (first | refine jC ?_ | refine jN ?_ | refine jS ?_ | refine jR ?_ | refine jT ?_ | refine jB ?_ | refine jX rfl ?_ | refine jY rfl ?_ | refine jK ?_ | refine jD ?_ | refine jE ?_)
  refine CallV.val (fun w' hw _ => szNodeS_vc ts _ _ w' (hT.ext hw) hwf (by omega) (by omega)) ?_
  repeat (first | refine jC ?_ | refine jN ?_ | refine jS ?_ | refine jR ?_ | refine jT ?_ | refine jB ?_ | refine jX rfl ?_ | refine jY rfl ?_ | refine jK ?_ | refine jD ?_ | refine jE ?_)
  refine Br.intro (fun h => ?_) (fun h => ?_)
  · repeat (first | refine jC ?_ | refine jN ?_ | refine jS ?_ | refine jR ?_ | refine jT ?_ | refine jB ?_ | refine jX rfl ?_ | refine jY rfl ?_ | refine jK ?_ | refine jD ?_ | refine jE ?_)
    exact EndV.val rfl (Ext.refl _)
  have hs := szNds_sized (of_decide_eq_false h)
  have hcnt := szNds_cnt (of_decide_eq_false h)
  have hm := hlen hs
  repeat (first | refine jC ?_ | refine jN ?_ | refine jS ?_ | refine jR ?_ | refine jT ?_ | refine jB ?_ | refine jX rfl ?_ | refine jY rfl ?_ | refine jK ?_ | refine jD ?_ | refine jE ?_)
  refine CallV.mem _ (fun w' hw _ => toNodeS_vc ts _ w' (hT.ext hw) hs) (fun x1 wa wb hx1 hx2 _ hT1 => ?_)
  repeat (first | refine jC ?_ | refine jN ?_ | refine jS ?_ | refine jR ?_ | refine jT ?_ | refine jB ?_ | refine jX rfl ?_ | refine jY rfl ?_ | refine jK ?_ | refine jD ?_ | refine jE ?_)
  refine CallV.mem _ (fun w' hw _ => sPathsOf_vc ts _ w' (hT1.tree.ext hw) hs hwf) (fun x2 wc wd hx3 hx4 _ ⟨g2, hB2⟩ => ?_)
  have hR2 := hB2.row1
  have hI2 := hR2.inB
  have hxd := ((hx1.trans hx2).trans hx3).trans hx4
  repeat (first | refine jC ?_ | refine jN ?_ | refine jS ?_ | refine jR ?_ | refine jT ?_ | refine jB ?_ | refine jX rfl ?_ | refine jY rfl ?_ | refine jK ?_ | refine jD ?_ | refine jE ?_)
  refine CallV.mem _ (fun w' hw _ => toNodeS_vc ts _ w' (hT.ext (hxd.trans hw)) hs) (fun x3 we wf hx5 hx6 _ hT3 => ?_)
  have hxf := (hxd.trans hx5).trans hx6
  have hR2f := (hR2.ext hx5).ext hx6
  repeat (first | refine jC ?_ | refine jN ?_ | refine jS ?_ | refine jR ?_ | refine jT ?_ | refine jB ?_ | refine jX rfl ?_ | refine jY rfl ?_ | refine jK ?_ | refine jD ?_ | refine jE ?_)
  refine CallV.mem _ (fun w' hw _ => iPathsOf_vc ts _ w' (hT3.tree.ext hw) hs hwf) (fun x4 wg wh hx7 hx8 _ ⟨g4, hB4⟩ => ?_)
  have hR4 := hB4.row1
  have hxh := (hxf.trans hx7).trans hx8
  have hR2h := (hR2f.ext hx7).ext hx8
  repeat (first | refine jC ?_ | refine jN ?_ | refine jS ?_ | refine jR ?_ | refine jT ?_ | refine jB ?_ | refine jX rfl ?_ | refine jY rfl ?_ | refine jK ?_ | refine jD ?_ | refine jE ?_)
  refine CallV.val (fun w' hw _ => eqStringS_vc _ _ _ _ w' (hR4.ext hw) (hR2h.ext hw) rfl) ?_
  repeat (first | refine jC ?_ | refine jN ?_ | refine jS ?_ | refine jR ?_ | refine jT ?_ | refine jB ?_ | refine jX rfl ?_ | refine jY rfl ?_ | refine jK ?_ | refine jD ?_ | refine jE ?_)
  refine CallV.mem _ (fun w' hw _ => toNodeS_vc ts _ w' (hT.ext (hxh.trans hw)) hs) (fun x5 wi wj hx9 hx10 _ hT5 => ?_)
  have hxj := (hxh.trans hx9).trans hx10
  have hxhj := hx9.trans hx10
  repeat (first | refine jC ?_ | refine jN ?_ | refine jS ?_ | refine jR ?_ | refine jT ?_ | refine jB ?_ | refine jX rfl ?_ | refine jY rfl ?_ | refine jK ?_ | refine jD ?_ | refine jE ?_)
  refine CallV.val (fun w' hw _ => eqNodeS_vc ts ts _ _ w' ((((hT3.tree.ext hx7).ext hx8).ext hxhj).ext hw) (hT5.tree.ext hw) rfl) ?_
  repeat (first | refine jC ?_ | refine jN ?_ | refine jS ?_ | refine jR ?_ | refine jT ?_ | refine jB ?_ | refine jX rfl ?_ | refine jY rfl ?_ | refine jK ?_ | refine jD ?_ | refine jE ?_)
  have hsz6 := hx5.size
  have hsz66 := hx6.size
  have hszf := (hx7.trans hx8).size
  have hszj := hxhj.size
  -- the marks in the argument
  refine CallV.turn (Φ := fun v _ w' => v = .int .i64 (1 + (cntNds ts : Int)) ∧ ExcP (fun j => we.heap.size ≤ j ∧ j < wf.heap.size) wj w') (fun w' hw _ => ?_) (fun v w1 w2 hw1 ⟨e, hX⟩ => ?_)
  · exact (markNodeS_vc ts _ we.heap.size wf.heap.size 1 w' ((((hT3.ext hx7).ext hx8).ext hxhj).ext hw) (by have := hw.size; omega) (by omega) (by omega)).mono fun e w2 ⟨h1, h2, _⟩ => ⟨_, h1, rfl, (ExcP.of_ext hw).trans h2⟩
  subst e
  have hxl : Below w.heap.size w w2 := Below.trans hxj (hX.below hxj.size (by have := hxd.size; intro j hj; omega))
  repeat (first | refine jC ?_ | refine jN ?_ | refine jS ?_ | refine jR ?_ | refine jT ?_ | refine jB ?_ | refine jX rfl ?_ | refine jY rfl ?_ | refine jK ?_ | refine jD ?_ | refine jE ?_)
  try (refine Br.intro (fun h => absurd (of_decide_eq_true h) (by omega)) (fun _ => ?_))
  repeat (first | refine jC ?_ | refine jN ?_ | refine jS ?_ | refine jR ?_ | refine jT ?_ | refine jB ?_ | refine jX rfl ?_ | refine jY rfl ?_ | refine jK ?_ | refine jD ?_ | refine jE ?_)
  have hI4 := hB4.inB
  obtain ⟨g4, hg4, hg4', hW4⟩ : ∃ g, wg.heap.size ≤ g ∧ (0 < (pathsOfF ts).length → g < wh.heap.size) ∧ Wr1 wh x4 (pathsOfF ts).length g := by
    rcases Nat.eq_zero_or_pos (pathsOfF ts).length with h0 | h0
    · refine ⟨wg.heap.size, Nat.le_refl _, fun h => by omega, ?_⟩
      have := hB4.wr1
      rw [h0] at this ⊢
      exact this.none _
    · have hb := hB4.blk (by obtain ⟨_, cq, e, h1, _⟩ := id hB4; subst e; exact Nat.lt_of_lt_of_le h0 h1)
      exact ⟨g4, hb.1, fun _ => hb.2, hB4.wr1⟩
  obtain ⟨ad4, cap4, rfl, _⟩ := id hB4
  have hR2k : Row1 w2 _ _ := (hR2h.ext hxhj).agree (hI2.mono (Nat.zero_le _) (Nat.le_refl _)) (hX.agree (lo := 0) (hi := wd.heap.size) (by omega) (by intro j; omega))
  have hR4k : Row1 w2 _ _ := (hR4.ext hxhj).agree hI4 (hX.agree (by omega) (by have := hx7.size; intro j; omega))
  have hW4k : Wr1 w2 _ _ g4 := Wr1.agree (lo := wg.heap.size) (hi := wh.heap.size) (hW4.agree (lo := 0) (hi := wh.heap.size) (Agree.of_ext hxhj (Nat.le_refl _)) (fun h0 => ⟨Nat.zero_le _, hg4' h0⟩))
    (hX.agree (by omega) (by have := hx7.size; intro j; omega)) (fun h0 => ⟨hg4, hg4' h0⟩)
  refine CallV.val (fun w' hw _ => eqStringS_vc _ _ _ _ w' (hR4k.ext hw) (hR2k.ext hw) rfl) ?_
  repeat (first | refine jC ?_ | refine jN ?_ | refine jS ?_ | refine jR ?_ | refine jT ?_ | refine jB ?_ | refine jX rfl ?_ | refine jY rfl ?_ | refine jK ?_ | refine jD ?_ | refine jE ?_)
  -- the marks in the result
  refine CallV.turn (Φ := fun v _ w' => v = .int .i64 (1 + ((pathsOfF ts).length : Nat)) ∧ Exc g4 w2 w' ∧ Row1 w' (.slice ad4 (pathsOfF ts).length cap4) (strs (mkS 1 (pathsOfF ts).length))) (fun w' hw _ => ?_) (fun v w3 w4 hw3 ⟨e, hX4, hM⟩ => ?_)
  · exact (markStringS_vc _ _ g4 1 w' (hW4k.agree (lo := 0) (hi := w2.heap.size) (Agree.of_ext hw (Nat.le_refl _)) (fun h0 => ⟨Nat.zero_le _, by have := hg4' h0; have := hxhj.size; have := hX.size; omega⟩)) (by omega) (by omega)).mono
      fun e w5 ⟨h1, h2, h3, _⟩ => ⟨_, h1, rfl, (Exc.of_ext hw).trans h2, h3⟩
  subst e
  have hxm : Below w.heap.size w w4 := Below.trans hxl (hX4.below (B := w.heap.size) (by have := hxf.size; have := hx7.size; omega) hxl.size)
  repeat (first | refine jC ?_ | refine jN ?_ | refine jS ?_ | refine jR ?_ | refine jT ?_ | refine jB ?_ | refine jX rfl ?_ | refine jY rfl ?_ | refine jK ?_ | refine jD ?_ | refine jE ?_)
  refine CallV.val (fun w' hw _ => heldStringS_vc _ _ 1 w' (hM.ext hw) (by omega) (by omega)) ?_
  repeat (first | refine jC ?_ | refine jN ?_ | refine jS ?_ | refine jR ?_ | refine jT ?_ | refine jB ?_ | refine jX rfl ?_ | refine jY rfl ?_ | refine jK ?_ | refine jD ?_ | refine jE ?_)
  try (refine Br.intro (fun h => absurd (of_decide_eq_true h) (by omega)) (fun _ => ?_))
  repeat (first | refine jC ?_ | refine jN ?_ | refine jS ?_ | refine jR ?_ | refine jT ?_ | refine jB ?_ | refine jX rfl ?_ | refine jY rfl ?_ | refine jK ?_ | refine jD ?_ | refine jE ?_)
  try (refine Br.no (by simp) ?_)
  repeat (first | refine jC ?_ | refine jN ?_ | refine jS ?_ | refine jR ?_ | refine jT ?_ | refine jB ?_ | refine jX rfl ?_ | refine jY rfl ?_ | refine jK ?_ | refine jD ?_ | refine jE ?_)
  refine CallV.mem _ (fun w' hw _ => toNodeS_vc ts _ w' (hT.ext (Ext.trans' hxm (hw.mono hxm.size))) hs) (fun x6 wk wl hx11 hx12 _ hT6 => ?_)
  repeat (first | refine jC ?_ | refine jN ?_ | refine jS ?_ | refine jR ?_ | refine jT ?_ | refine jB ?_ | refine jX rfl ?_ | refine jY rfl ?_ | refine jK ?_ | refine jD ?_ | refine jE ?_)
  refine CallV.mem _ (fun w' hw _ => iPathsOf_vc ts _ w' (hT6.tree.ext hw) hs hwf) (fun x7 wm wn hx13 hx14 _ ⟨g7, hB7⟩ => ?_)
  have hxmn := ((hx11.trans hx12).trans hx13).trans hx14
  have hR2m : Row1 w4 _ _ := hR2k.agree (hI2.mono (Nat.zero_le _) (Nat.le_refl _)) (hX4.agree (lo := 0) (hi := wd.heap.size) (by have := hX.size; omega) (.inr (by have := hx7.size; have := hx6.size; have := hx5.size; omega)))
  repeat (first | refine jC ?_ | refine jN ?_ | refine jS ?_ | refine jR ?_ | refine jT ?_ | refine jB ?_ | refine jX rfl ?_ | refine jY rfl ?_ | refine jK ?_ | refine jD ?_ | refine jE ?_)
  refine CallV.val (fun w' hw _ => eqStringS_vc _ _ _ _ w' (hB7.row1.ext hw) ((hR2m.ext hxmn).ext hw) rfl) ?_
  repeat (first | refine jC ?_ | refine jN ?_ | refine jS ?_ | refine jR ?_ | refine jT ?_ | refine jB ?_ | refine jX rfl ?_ | refine jY rfl ?_ | refine jK ?_ | refine jD ?_ | refine jE ?_)
  refine CallV.val (fun w' hw _ => heldStringS_vc _ _ 1 w' ((hM.ext hxmn).ext hw) (by omega) (by omega)) ?_
  repeat (first | refine jC ?_ | refine jN ?_ | refine jS ?_ | refine jR ?_ | refine jT ?_ | refine jB ?_ | refine jX rfl ?_ | refine jY rfl ?_ | refine jK ?_ | refine jD ?_ | refine jE ?_)
  try (refine Br.intro (fun h => absurd (of_decide_eq_true h) (by omega)) (fun _ => ?_))
  repeat (first | refine jC ?_ | refine jN ?_ | refine jS ?_ | refine jR ?_ | refine jT ?_ | refine jB ?_ | refine jX rfl ?_ | refine jY rfl ?_ | refine jK ?_ | refine jD ?_ | refine jE ?_)
  try (refine Br.no (by simp) ?_)
  repeat (first | refine jC ?_ | refine jN ?_ | refine jS ?_ | refine jR ?_ | refine jT ?_ | refine jB ?_ | refine jX rfl ?_ | refine jY rfl ?_ | refine jK ?_ | refine jD ?_ | refine jE ?_)
  exact EndV.val rfl (Ext.trans' hxm (hxmn.mono hxm.size))

set_option maxRecDepth 100000 in
theorem lifted (os : Os) (started : os.Started) (H : Type) (enc : TypeId × Value → H) :
    ReturnsInHanded {} Try.checked os 8 .any (Rows.fnExactPathsOfSpec.pre6 enc Try.prog Try.f8 Rows.fnExactPathsOfRow.domain false) (Rows.fnExactPathsOfSpec.post enc Try.prog Try.f8 false true false false) := by
  refine returnsInHanded_of_change (C := Try.checked) own started (by kernel_rfl) Try.func8
    (ChangeSpec.witness6 (enc := enc) (C := Try.checked) false ⟨#[], #[.slice none 0 0], []⟩ 8 (by kernel_rfl) (by kernel_rfl) (by kernel_rfl) (by kernel_rfl)) ?_
  intro W base args ds gs before hval0 hW hcnd _
  have hval : ∀ (j : Nat) t v, Try.f8.params[j]? = some t → args[j]? = some v → Value.okWide Try.prog W .any base t v := hval0
  have hW' := hW
  have hltb : ∀ x ∈ before, x.block < W.heap.size := fun x hx => hW.lt x hx
  obtain ⟨p, q, hA0, hV, rfl, hfz, hnd⟩ := hW
  have hA : DataW.TrodAll enc Try.prog W 0 (fun _ => true) true Try.f8.params.toList args.toList ds p := hA0
  have hlt : ∀ x ∈ p, x.block < W.heap.size := fun x hx => hltb x (List.mem_append_left _ hx)
  have hAll := hA
  rw [Try.params8] at hA hval
  obtain ⟨v0, vs0, d0, ds0, p0, q0, hargs, rfl, rfl, h0, r0⟩ := trodAll_cons hA
  obtain ⟨rfl, rfl, rfl⟩ := trodAll_nil r0
  obtain rfl : args = #[v0] := by cases args; simp_all
  obtain ⟨rfl, rfl⟩ := trodVars_none hV
  clear hA0 hval0
  have hlt0 : ∀ x ∈ p0, x.block < W.heap.size := fun x hx => hlt x (by simp [hx])
  have w0 := open_nodes (hval 0 28 v0 rfl rfl) h0 hlt0
  simp only [List.append_nil] at hW' hltb hAll
  refine (walk v0 W w0).mono fun e W' ⟨he, hg⟩ => ?_
  subst he
  exact ⟨_, rfl, post_of_below (pa := _) (pv := []) hW' (fun _ _ _ => (trodAll_cons_mk (shut_bool Try.underlying4 _) trodAll_mk0))
    (fun sp hsp => trodAll_stays laidOut hg (by kernel_rfl) hAll hltb sp hsp) (fun _ _ => rfl) (by simp) hg (ok_one (by kernel_rfl) rfl (okWide_bool_mk Try.underlying4 _))⟩

theorem over : Rows.fnExactPathsOfRow.holds Try.pinned (OpenSpec.ofChange Rows.fnExactPathsOfSpec) :=
  OpenClaim.holds_of_wide 8 Try.f8 rfl rfl rfl rfl rfl rfl rfl ⟨rfl, rfl, rfl, rfl, rfl⟩ rfl rfl rfl rfl rfl (by kernel_rfl) Try.func8 (by kernel_rfl)
    (of_decide_eq_true (by kernel_rfl)) (by unfold Func.isWrapper; first | (rw [if_pos (by decide +kernel)]; kernel_rfl) | (rw [if_neg (by decide +kernel)]; exact ⟨rfl, rfl⟩))
    (fun os started H enc _ => lifted os started H enc)


/-- The statement. -/
theorem proved : Rows.FnExactPathsOfSaid :=
  over
#print axioms proved
end Go.Proofs.Ytlnlpholhnbifaa.fnExactPathsOf
