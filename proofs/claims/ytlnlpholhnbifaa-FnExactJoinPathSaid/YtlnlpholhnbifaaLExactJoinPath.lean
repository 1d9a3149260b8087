/-
  JoinPath of the program is JoinPath of the reference.
  Conditions: none.
-/
import Derived.Test.YtlnlpholhnbifaaJoin
import Derived.Test.YtlnlpholhnbifaaNodeX
import Derived.Test.YtlnlpholhnbifaaNodeO
namespace Go.Proofs.Ytlnlpholhnbifaa.fnExactJoinPath
open Go.ChangeShapes Go.WideShapes Go.ChangeAt Go.RowKit
open Go.ChangeMaps (open_string)
set_option linter.unusedVariables false
open Vc
attribute [local irreducible] WpC WpL WpD CallV QCallV Made AppV Ld LdN Ix EndV I64 MutN Mut CellsAt
theorem walk (v0 : Value) (w : World) (w0 : ∃ l : List ByteArray, Row1 w v0 (strs l) ∧ ∀ s ∈ l, s.size ≤ 9223372036854775807) :
    Calls Try.prog 3 #[v0] w fun e w' => e = .returned (.bool true) ∧ Below w.heap.size w w' := by
  obtain ⟨l, hU, hwf⟩ := w0
  refine calls_of cx_ok Try.func3 Try.ntmps3 Try.results3 rfl rfl ?_
  repeat (first | refine WpL.cons ?_ | refine WpL.nil ?_ | refine WpC.seq ?_ | refine WpC.reg ?_ | refine WpC.ret ?_ | refine WpC.block ?_ | refine WpC.exit rfl ?_ | refine WpC.cond rfl ?_ | refine WpC.skip ?_ | refine WpD.cons ?_ | refine WpD.nil ?_)
  refine CallV.val (fun w' hw _ => szStringS_vc l _ _ w' (hU.ext hw) hwf (by omega) (by omega)) ?_
  repeat (first | refine WpL.cons ?_ | refine WpL.nil ?_ | refine WpC.seq ?_ | refine WpC.reg ?_ | refine WpC.ret ?_ | refine WpC.block ?_ | refine WpC.exit rfl ?_ | refine WpC.cond rfl ?_ | refine WpC.skip ?_ | refine WpD.cons ?_ | refine WpD.nil ?_)
  refine Br.intro (fun h => ?_) (fun h => ?_)
  · repeat (first | refine WpL.cons ?_ | refine WpL.nil ?_ | refine WpC.seq ?_ | refine WpC.reg ?_ | refine WpC.ret ?_ | refine WpC.block ?_ | refine WpC.exit rfl ?_ | refine WpC.cond rfl ?_ | refine WpC.skip ?_ | refine WpD.cons ?_ | refine WpD.nil ?_)
    exact EndV.val rfl (Ext.refl _)
  have hl : l.length ≤ 1048576 := by
    have h := of_decide_eq_false h
    unfold szNames at h
    split at h <;> omega
  have row : ∀ {w' : World} {v : Value}, (∃ g, v = .slice (some ⟨g, 0, none⟩) l.length l.length ∧ w'.heap[g]? = some (.cells (strs l).toArray 9 (0, 0))) → Row1 w' v (strs l) := by
    rintro w' v ⟨g, rfl, hg⟩
    exact (row_of_block (n := l.length) hg (by simp) hl).1
  repeat (first | refine WpL.cons ?_ | refine WpL.nil ?_ | refine WpC.seq ?_ | refine WpC.reg ?_ | refine WpC.ret ?_ | refine WpC.block ?_ | refine WpC.exit rfl ?_ | refine WpC.cond rfl ?_ | refine WpC.skip ?_ | refine WpD.cons ?_ | refine WpD.nil ?_)
  refine CallV.mem _ (fun w' hw _ => toStringS_vc l _ w' (hU.ext hw) hl) (fun x1 wa wb hx1 hx2 _ ⟨g1, e1, _, hg1⟩ => ?_)
  have hR1 : Row1 wb x1 (strs l) := row ⟨g1, e1, hg1⟩
  repeat (first | refine WpL.cons ?_ | refine WpL.nil ?_ | refine WpC.seq ?_ | refine WpC.reg ?_ | refine WpC.ret ?_ | refine WpC.block ?_ | refine WpC.exit rfl ?_ | refine WpC.cond rfl ?_ | refine WpC.skip ?_ | refine WpD.cons ?_ | refine WpD.nil ?_)
  refine CallV.val (fun w' hw _ => sJoinPath_vc l _ w' (hR1.ext hw) hwf) ?_
  repeat (first | refine WpL.cons ?_ | refine WpL.nil ?_ | refine WpC.seq ?_ | refine WpC.reg ?_ | refine WpC.ret ?_ | refine WpC.block ?_ | refine WpC.exit rfl ?_ | refine WpC.cond rfl ?_ | refine WpC.skip ?_ | refine WpD.cons ?_ | refine WpD.nil ?_)
  have hxb := hx1.trans hx2
  refine CallV.mem _ (fun w' hw _ => toStringS_vc l _ w' (hU.ext (hxb.trans hw)) hl) (fun x2 wc wd hx3 hx4 _ ⟨g2, e2, _, hg2⟩ => ?_)
  have hR2 : Row1 wd x2 (strs l) := row ⟨g2, e2, hg2⟩
  repeat (first | refine WpL.cons ?_ | refine WpL.nil ?_ | refine WpC.seq ?_ | refine WpC.reg ?_ | refine WpC.ret ?_ | refine WpC.block ?_ | refine WpC.exit rfl ?_ | refine WpC.cond rfl ?_ | refine WpC.skip ?_ | refine WpD.cons ?_ | refine WpD.nil ?_)
  refine CallV.val (fun w' hw _ => iJoinPath_vc l _ w' (hR2.ext hw) hwf) ?_
  repeat (first | refine WpL.cons ?_ | refine WpL.nil ?_ | refine WpC.seq ?_ | refine WpC.reg ?_ | refine WpC.ret ?_ | refine WpC.block ?_ | refine WpC.exit rfl ?_ | refine WpC.cond rfl ?_ | refine WpC.skip ?_ | refine WpD.cons ?_ | refine WpD.nil ?_)
  refine Br.no (by simp) ?_
  repeat (first | refine WpL.cons ?_ | refine WpL.nil ?_ | refine WpC.seq ?_ | refine WpC.reg ?_ | refine WpC.ret ?_ | refine WpC.block ?_ | refine WpC.exit rfl ?_ | refine WpC.cond rfl ?_ | refine WpC.skip ?_ | refine WpD.cons ?_ | refine WpD.nil ?_)
  have hxd := (hxb.trans hx3).trans hx4
  refine CallV.mem _ (fun w' hw _ => toStringS_vc l _ w' (hU.ext (hxd.trans hw)) hl) (fun x3 we wf hx5 hx6 _ ⟨g3, e3, _, hg3⟩ => ?_)
  have hR3 : Row1 wf x3 (strs l) := row ⟨g3, e3, hg3⟩
  repeat (first | refine WpL.cons ?_ | refine WpL.nil ?_ | refine WpC.seq ?_ | refine WpC.reg ?_ | refine WpC.ret ?_ | refine WpC.block ?_ | refine WpC.exit rfl ?_ | refine WpC.cond rfl ?_ | refine WpC.skip ?_ | refine WpD.cons ?_ | refine WpD.nil ?_)
  refine CallV.val (fun w' hw _ => eqStringS_vc l l _ _ w' (hR2.ext ((hx5.trans hx6).trans hw)) (hR3.ext hw) rfl) ?_
  repeat (first | refine WpL.cons ?_ | refine WpL.nil ?_ | refine WpC.seq ?_ | refine WpC.reg ?_ | refine WpC.ret ?_ | refine WpC.block ?_ | refine WpC.exit rfl ?_ | refine WpC.cond rfl ?_ | refine WpC.skip ?_ | refine WpD.cons ?_ | refine WpD.nil ?_)
  exact EndV.val rfl ((hxd.trans hx5).trans hx6)

set_option maxRecDepth 100000 in
theorem lifted (os : Os) (started : os.Started) (H : Type) (enc : TypeId × Value → H) :
    ReturnsInHanded {} Try.checked os 3 .any (Rows.fnExactJoinPathSpec.pre6 enc Try.prog Try.f3 Rows.fnExactJoinPathRow.domain false) (Rows.fnExactJoinPathSpec.post enc Try.prog Try.f3 false true false false) := by
  refine returnsInHanded_of_change (C := Try.checked) own started (by kernel_rfl) Try.func3
    (ChangeSpec.witness6 (enc := enc) (C := Try.checked) false ⟨#[], #[.slice none 0 0], []⟩ 8 (by kernel_rfl) (by kernel_rfl) (by kernel_rfl) (by kernel_rfl)) ?_
  intro W base args ds gs before hval0 hW hcnd _
  have hval : ∀ (j : Nat) t v, Try.f3.params[j]? = some t → args[j]? = some v → Value.okWide Try.prog W .any base t v := hval0
  have hW' := hW
  have hltb : ∀ x ∈ before, x.block < W.heap.size := fun x hx => hW.lt x hx
  obtain ⟨p, q, hA0, hV, rfl, hfz, hnd⟩ := hW
  have hA : DataW.TrodAll enc Try.prog W 0 (fun _ => true) true Try.f3.params.toList args.toList ds p := hA0
  have hlt : ∀ x ∈ p, x.block < W.heap.size := fun x hx => hltb x (List.mem_append_left _ hx)
  have hAll := hA
  rw [Try.params3] at hA hval
  obtain ⟨v0, vs0, d0, ds0, p0, q0, hargs, rfl, rfl, h0, r0⟩ := trodAll_cons hA
  obtain ⟨rfl, rfl, rfl⟩ := trodAll_nil r0
  obtain rfl : args = #[v0] := by cases args; simp_all
  obtain ⟨rfl, rfl⟩ := trodVars_none hV
  clear hA0 hval0
  have hlt0 : ∀ x ∈ p0, x.block < W.heap.size := fun x hx => hlt x (by simp [hx])
  have w0 := open_strs (hval 0 22 v0 rfl rfl) h0 hlt0
  simp only [List.append_nil] at hW' hltb hAll
  refine (walk v0 W w0).mono fun e W' ⟨he, hg⟩ => ?_
  subst he
  exact ⟨_, rfl, post_of_below (pa := _) (pv := []) hW' (fun _ _ _ => (trodAll_cons_mk (shut_bool Try.underlying4 _) trodAll_mk0))
    (fun sp hsp => trodAll_stays laidOut hg (by kernel_rfl) hAll hltb sp hsp) (fun _ _ => rfl) (by simp) hg (ok_one (by kernel_rfl) rfl (okWide_bool_mk Try.underlying4 _))⟩

theorem over : Rows.fnExactJoinPathRow.holds Try.pinned (OpenSpec.ofChange Rows.fnExactJoinPathSpec) :=
  OpenClaim.holds_of_wide 3 Try.f3 rfl rfl rfl rfl rfl rfl rfl ⟨rfl, rfl, rfl, rfl, rfl⟩ rfl rfl rfl rfl rfl (by kernel_rfl) Try.func3 (by kernel_rfl)
    (of_decide_eq_true (by kernel_rfl)) (by unfold Func.isWrapper; first | (rw [if_pos (by decide +kernel)]; kernel_rfl) | (rw [if_neg (by decide +kernel)]; exact ⟨rfl, rfl⟩))
    (fun os started H enc _ => lifted os started H enc)

/-- The statement. -/
theorem proved : Rows.FnExactJoinPathSaid :=
  over
#print axioms proved
end Go.Proofs.Ytlnlpholhnbifaa.fnExactJoinPath
