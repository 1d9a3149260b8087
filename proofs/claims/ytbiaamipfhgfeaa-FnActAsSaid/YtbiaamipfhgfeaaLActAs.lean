/-
  Acting for Real is always possible, and changes Acts alone.
  Conditions: none.
-/
import Derived.Test.YtbiaamipfhgfeaaRdW
import Derived.Test.YtbiaamipfhgfeaaCmp
import Derived.Test.YtbiaamipfhgfeaaAlive
namespace Go.Proofs.Ytbiaamipfhgfeaa.fnActAs
open Go.ChangeShapes Go.WideShapes Go.ChangeAt Go.RowKit
open Go.ChangeMaps (open_string)
set_option linter.unusedVariables false
open Vc
attribute [local irreducible] WpC WpL WpD WpE WpB CallV QCallV Made AppV Ld LdN Ix EndV I64 MutN Mut CellsAt
theorem actAs_law (c : Cr) (x : Int) : (c.ok = false → actAsB c x = false) ∧ (c.ok = true → actAsB c c.real = true ∧ (actAsC c c.real).acts = c.real) ∧
    (actAsB c x = true → (actAsC c x).real = c.real ∧ (actAsC c x).saved = c.saved ∧ (actAsC c x).groups = c.groups ∧ (actAsC c x).acts = x) := by
  refine ⟨fun h => by simp [actAsB, h], fun h => ?_, fun h => ?_⟩
  · have ho := Cr.ok_iff.1 h
    have hi : inR c.real 0 99 = true := inR_iff.2 ho.1
    have hb : actAsB c c.real = true := by simp [actAsB, h, hi]
    exact ⟨hb, by rw [actAsC, if_pos (by rw [h, hi]; rfl), if_pos hb]⟩
  · have h' : (c.ok && inR x 0 99) = true := by
      unfold actAsB at h
      rw [Bool.and_eq_true] at h
      exact h.1
    rw [actAsC, if_pos h', if_pos h]
    exact ⟨rfl, rfl, rfl, rfl⟩
set_option maxHeartbeats 1000000 in
theorem walk (v0 : Value) (w : World) (w0 : CodeAt w v0) :
    Calls Try.prog 10 #[v0] w fun e w' => e = .returned (.bool true) ∧ Below w.heap.size w w' := by
  obtain ⟨ad, len, cap, bs, rfl, hlc, hcm, hbl, hbd, hcell⟩ := w0
  have h0 : CodeAt w (.slice ad len cap) := ⟨ad, len, cap, bs, rfl, hlc, hcm, hbl, hbd, hcell⟩
  refine calls_of cx_ok Try.func10 Try.ntmps10 Try.results10 rfl rfl ?_
  repeat (first | refine WpL.eqC ?_ | refine WpL.neC ?_ | refine WpD.neC ?_ | refine jC ?_ | refine jN ?_ | refine jS ?_ | refine jR ?_ | refine jT ?_ | refine jB ?_ | refine jX rfl ?_ | refine jY rfl ?_ | refine jK ?_ | refine jD ?_ | refine jE ?_)
  refine Br.intro (fun h => ?_) (fun h => ?_)
  · repeat (first | refine WpL.eqC ?_ | refine WpL.neC ?_ | refine WpD.neC ?_ | refine jC ?_ | refine jN ?_ | refine jS ?_ | refine jR ?_ | refine jT ?_ | refine jB ?_ | refine jX rfl ?_ | refine jY rfl ?_ | refine jK ?_ | refine jD ?_ | refine jE ?_)
    exact EndV.val rfl (Ext.refl _)
  repeat (first | refine WpL.eqC ?_ | refine WpL.neC ?_ | refine WpD.neC ?_ | refine jC ?_ | refine jN ?_ | refine jS ?_ | refine jR ?_ | refine jT ?_ | refine jB ?_ | refine jX rfl ?_ | refine jY rfl ?_ | refine jK ?_ | refine jD ?_ | refine jE ?_)
  refine CallV.mem (fun v _ _ => ∃ (c : Cr) (x : Int), v = .tuple #[c.v, .int .i64 x] ∧ c.small ∧ (-1 ≤ x ∧ x ≤ 100)) (fun w' hw _ => (dActAs_vc _ w' (h0.below hw)).mono fun e w1 ⟨c, x, h1, h2, h3, h4⟩ => ⟨_, h1, ⟨c, x, rfl, h2, h3⟩, h4⟩) (fun v wa wb hx1 hx2 _ ⟨c, x, e, hsm, hx⟩ => ?_)
  subst e
  repeat (first | refine WpL.eqC ?_ | refine WpL.neC ?_ | refine WpD.neC ?_ | refine jC ?_ | refine jN ?_ | refine jS ?_ | refine jR ?_ | refine jT ?_ | refine jB ?_ | refine jX rfl ?_ | refine jY rfl ?_ | refine jK ?_ | refine jD ?_ | refine jE ?_)
  intro b3 hb3
  repeat (first | refine WpL.eqC ?_ | refine WpL.neC ?_ | refine WpD.neC ?_ | refine jC ?_ | refine jN ?_ | refine jS ?_ | refine jR ?_ | refine jT ?_ | refine jB ?_ | refine jX rfl ?_ | refine jY rfl ?_ | refine jK ?_ | refine jD ?_ | refine jE ?_)
  refine ⟨by assumption, rfl, by simp, by simp [Value.oneCell'], ?_⟩
  repeat (first | refine WpL.eqC ?_ | refine WpL.neC ?_ | refine WpD.neC ?_ | refine jC ?_ | refine jN ?_ | refine jS ?_ | refine jR ?_ | refine jT ?_ | refine jB ?_ | refine jX rfl ?_ | refine jY rfl ?_ | refine jK ?_ | refine jD ?_ | refine jE ?_)
  refine CallV.val (fun w' hw _ => iActAs_any c x w') ?_
  repeat (first | refine WpL.eqC ?_ | refine WpL.neC ?_ | refine WpD.neC ?_ | refine jC ?_ | refine jN ?_ | refine jS ?_ | refine jR ?_ | refine jT ?_ | refine jB ?_ | refine jX rfl ?_ | refine jY rfl ?_ | refine jK ?_ | refine jD ?_ | refine jE ?_)
  intro b5 hb5
  repeat (first | refine WpL.eqC ?_ | refine WpL.neC ?_ | refine WpD.neC ?_ | refine jC ?_ | refine jN ?_ | refine jS ?_ | refine jR ?_ | refine jT ?_ | refine jB ?_ | refine jX rfl ?_ | refine jY rfl ?_ | refine jK ?_ | refine jD ?_ | refine jE ?_)
  refine ⟨by assumption, rfl, by simp, by simp [Value.oneCell'], ?_⟩
  repeat (first | refine WpL.eqC ?_ | refine WpL.neC ?_ | refine WpD.neC ?_ | refine jC ?_ | refine jN ?_ | refine jS ?_ | refine jR ?_ | refine jT ?_ | refine jB ?_ | refine jX rfl ?_ | refine jY rfl ?_ | refine jK ?_ | refine jD ?_ | refine jE ?_)
  refine CallV.val (fun w' hw _ => sActAs_any c x w') ?_
  repeat (first | refine WpL.eqC ?_ | refine WpL.neC ?_ | refine WpD.neC ?_ | refine jC ?_ | refine jN ?_ | refine jS ?_ | refine jR ?_ | refine jT ?_ | refine jB ?_ | refine jX rfl ?_ | refine jY rfl ?_ | refine jK ?_ | refine jD ?_ | refine jE ?_)
  intro b7 hb7
  repeat (first | refine WpL.eqC ?_ | refine WpL.neC ?_ | refine WpD.neC ?_ | refine jC ?_ | refine jN ?_ | refine jS ?_ | refine jR ?_ | refine jT ?_ | refine jB ?_ | refine jX rfl ?_ | refine jY rfl ?_ | refine jK ?_ | refine jD ?_ | refine jE ?_)
  refine ⟨by assumption, rfl, by simp, by simp [Value.oneCell'], ?_⟩
  repeat (first | refine WpL.eqC ?_ | refine WpL.neC ?_ | refine WpD.neC ?_ | refine jC ?_ | refine jN ?_ | refine jS ?_ | refine jR ?_ | refine jT ?_ | refine jB ?_ | refine jX rfl ?_ | refine jY rfl ?_ | refine jK ?_ | refine jD ?_ | refine jE ?_)
  refine ⟨actAsC c x, actAsC c x, rfl, rfl, ?_⟩
  rw [Cr.same_self]
  obtain ⟨F1, F2, F3⟩ := actAs_law c x
  generalize hX : actAsC c x = X at *
  generalize hBe : actAsB c x = B at *
  repeat (first | refine WpL.eqC ?_ | refine WpL.neC ?_ | refine WpD.neC ?_ | refine jC ?_ | refine jN ?_ | refine jS ?_ | refine jR ?_ | refine jT ?_ | refine jB ?_ | refine jX rfl ?_ | refine jY rfl ?_ | refine jK ?_ | refine jD ?_ | refine jE ?_)
  refine Br.no (by simp) ?_
  repeat (first | refine WpL.eqC ?_ | refine WpL.neC ?_ | refine WpD.neC ?_ | refine jC ?_ | refine jN ?_ | refine jS ?_ | refine jR ?_ | refine jT ?_ | refine jB ?_ | refine jX rfl ?_ | refine jY rfl ?_ | refine jK ?_ | refine jD ?_ | refine jE ?_)
  have hxb := hx1.trans hx2
  refine CallV.val (fun w' hw _ => (iCredValid_any c w')) ?_
  repeat (first | refine WpL.eqC ?_ | refine WpL.neC ?_ | refine WpD.neC ?_ | refine jC ?_ | refine jN ?_ | refine jS ?_ | refine jR ?_ | refine jT ?_ | refine jB ?_ | refine jX rfl ?_ | refine jY rfl ?_ | refine jK ?_ | refine jD ?_ | refine jE ?_)
  cases hok : c.ok
  · repeat (first | refine WpL.eqC ?_ | refine WpL.neC ?_ | refine WpD.neC ?_ | refine jC ?_ | refine jN ?_ | refine jS ?_ | refine jR ?_ | refine jT ?_ | refine jB ?_ | refine jX rfl ?_ | refine jY rfl ?_ | refine jK ?_ | refine jD ?_ | refine jE ?_)
    rw [F1 hok]
    repeat (first | refine WpL.eqC ?_ | refine WpL.neC ?_ | refine WpD.neC ?_ | refine jC ?_ | refine jN ?_ | refine jS ?_ | refine jR ?_ | refine jT ?_ | refine jB ?_ | refine jX rfl ?_ | refine jY rfl ?_ | refine jK ?_ | refine jD ?_ | refine jE ?_)
    refine CallV.val (fun w' _ _ => (alive_any w').of_same) ?_
    repeat (first | refine WpL.eqC ?_ | refine WpL.neC ?_ | refine WpD.neC ?_ | refine jC ?_ | refine jN ?_ | refine jS ?_ | refine jR ?_ | refine jT ?_ | refine jB ?_ | refine jX rfl ?_ | refine jY rfl ?_ | refine jK ?_ | refine jD ?_ | refine jE ?_)
    exact EndV.val rfl hxb
  · obtain ⟨e1, e2⟩ := F2 hok
    repeat (first | refine WpL.eqC ?_ | refine WpL.neC ?_ | refine WpD.neC ?_ | refine jC ?_ | refine jN ?_ | refine jS ?_ | refine jR ?_ | refine jT ?_ | refine jB ?_ | refine jX rfl ?_ | refine jY rfl ?_ | refine jK ?_ | refine jD ?_ | refine jE ?_)
    refine CallV.val (fun w' hw _ => iActAs_any c c.real w') ?_
    repeat (first | refine WpL.eqC ?_ | refine WpL.neC ?_ | refine WpD.neC ?_ | refine jC ?_ | refine jN ?_ | refine jS ?_ | refine jR ?_ | refine jT ?_ | refine jB ?_ | refine jX rfl ?_ | refine jY rfl ?_ | refine jK ?_ | refine jD ?_ | refine jE ?_)
    intro b9 hb9
    repeat (first | refine WpL.eqC ?_ | refine WpL.neC ?_ | refine WpD.neC ?_ | refine jC ?_ | refine jN ?_ | refine jS ?_ | refine jR ?_ | refine jT ?_ | refine jB ?_ | refine jX rfl ?_ | refine jY rfl ?_ | refine jK ?_ | refine jD ?_ | refine jE ?_)
    refine ⟨by assumption, rfl, by simp, by simp [Value.oneCell'], ?_⟩
    rw [e1]
    repeat (first | refine WpL.eqC ?_ | refine WpL.neC ?_ | refine WpD.neC ?_ | refine jC ?_ | refine jN ?_ | refine jS ?_ | refine jR ?_ | refine jT ?_ | refine jB ?_ | refine jX rfl ?_ | refine jY rfl ?_ | refine jK ?_ | refine jD ?_ | refine jE ?_)
    refine Br.yes (by simp [e2]) ?_
    repeat (first | refine WpL.eqC ?_ | refine WpL.neC ?_ | refine WpD.neC ?_ | refine jC ?_ | refine jN ?_ | refine jS ?_ | refine jR ?_ | refine jT ?_ | refine jB ?_ | refine jX rfl ?_ | refine jY rfl ?_ | refine jK ?_ | refine jD ?_ | refine jE ?_)
    cases hB : B
    · repeat (first | refine WpL.eqC ?_ | refine WpL.neC ?_ | refine WpD.neC ?_ | refine jC ?_ | refine jN ?_ | refine jS ?_ | refine jR ?_ | refine jT ?_ | refine jB ?_ | refine jX rfl ?_ | refine jY rfl ?_ | refine jK ?_ | refine jD ?_ | refine jE ?_)
      exact EndV.val rfl hxb
    · obtain ⟨f1, f2, f3, f4⟩ := F3 hB
      repeat (first | refine WpL.eqC ?_ | refine WpL.neC ?_ | refine WpD.neC ?_ | refine jC ?_ | refine jN ?_ | refine jS ?_ | refine jR ?_ | refine jT ?_ | refine jB ?_ | refine jX rfl ?_ | refine jY rfl ?_ | refine jK ?_ | refine jD ?_ | refine jE ?_)
      refine Br.yes (by simp [f1]) ?_
      repeat (first | refine WpL.eqC ?_ | refine WpL.neC ?_ | refine WpD.neC ?_ | refine jC ?_ | refine jN ?_ | refine jS ?_ | refine jR ?_ | refine jT ?_ | refine jB ?_ | refine jX rfl ?_ | refine jY rfl ?_ | refine jK ?_ | refine jD ?_ | refine jE ?_)
      refine Br.yes (by simp [f2]) ?_
      repeat (first | refine WpL.eqC ?_ | refine WpL.neC ?_ | refine WpD.neC ?_ | refine jC ?_ | refine jN ?_ | refine jS ?_ | refine jR ?_ | refine jT ?_ | refine jB ?_ | refine jX rfl ?_ | refine jY rfl ?_ | refine jK ?_ | refine jD ?_ | refine jE ?_)
      refine Br.yes (by simp [f3]) ?_
      repeat (first | refine WpL.eqC ?_ | refine WpL.neC ?_ | refine WpD.neC ?_ | refine jC ?_ | refine jN ?_ | refine jS ?_ | refine jR ?_ | refine jT ?_ | refine jB ?_ | refine jX rfl ?_ | refine jY rfl ?_ | refine jK ?_ | refine jD ?_ | refine jE ?_)
      exact EndV.val (by simp [f4]) hxb

set_option maxRecDepth 100000 in
theorem lifted (os : Os) (started : os.Started) (H : Type) (enc : TypeId × Value → H) :
    ReturnsInHanded {} Try.checked os 10 .any (Rows.fnActAsSpec.pre6 enc Try.prog Try.f10 Rows.fnActAsRow.domain false) (Rows.fnActAsSpec.post enc Try.prog Try.f10 false true false false) := by
  refine returnsInHanded_of_change (C := Try.checked) own started (by kernel_rfl) Try.func10
    (ChangeSpec.witness6 (enc := enc) (C := Try.checked) false ⟨#[], #[.slice none 0 0], []⟩ 8 (by kernel_rfl) (by kernel_rfl) (by kernel_rfl) (by kernel_rfl)) ?_
  intro W base args ds gs before hval0 hW hcnd _
  have hval : ∀ (j : Nat) t v, Try.f10.params[j]? = some t → args[j]? = some v → Value.okWide Try.prog W .any base t v := hval0
  have hW' := hW
  have hltb : ∀ x ∈ before, x.block < W.heap.size := fun x hx => hW.lt x hx
  obtain ⟨p, q, hA0, hV, rfl, hfz, hnd⟩ := hW
  have hA : DataW.TrodAll enc Try.prog W 0 (fun _ => true) true Try.f10.params.toList args.toList ds p := hA0
  have hlt : ∀ x ∈ p, x.block < W.heap.size := fun x hx => hltb x (List.mem_append_left _ hx)
  have hAll := hA
  rw [Try.params10] at hA hval
  obtain ⟨v0, vs0, d0, ds0, p0, q0, hargs, rfl, rfl, h0, r0⟩ := trodAll_cons hA
  obtain ⟨rfl, rfl, rfl⟩ := trodAll_nil r0
  obtain rfl : args = #[v0] := by cases args; simp_all
  obtain ⟨rfl, rfl⟩ := trodVars_none hV
  clear hA0 hval0
  have hlt0 : ∀ x ∈ p0, x.block < W.heap.size := fun x hx => hlt x (by simp [hx])
  have w0 := open_bytes (hval 0 22 v0 rfl rfl) h0 hlt0
  simp only [List.append_nil] at hW' hltb hAll
  refine (walk v0 W w0).mono fun e W' ⟨he, hg⟩ => ?_
  subst he
  exact ⟨_, rfl, post_of_below (pa := _) (pv := []) hW' (fun _ _ _ => (trodAll_cons_mk (shut_bool Try.underlying4 _) trodAll_mk0))
    (fun sp hsp => trodAll_stays laidOut hg (by kernel_rfl) hAll hltb sp hsp) (fun _ _ => rfl) (by simp) hg (ok_one (by kernel_rfl) rfl (okWide_bool_mk Try.underlying4 _))⟩

theorem over : Rows.fnActAsRow.holds Try.pinned (OpenSpec.ofChange Rows.fnActAsSpec) :=
  OpenClaim.holds_of_wide 10 Try.f10 rfl rfl rfl rfl rfl rfl rfl ⟨rfl, rfl, rfl, rfl, rfl⟩ rfl rfl rfl rfl rfl (by kernel_rfl) Try.func10 (by kernel_rfl)
    (of_decide_eq_true (by kernel_rfl)) (by unfold Func.isWrapper; first | (rw [if_pos (by decide +kernel)]; kernel_rfl) | (rw [if_neg (by decide +kernel)]; exact ⟨rfl, rfl⟩))
    (fun os started H enc _ => lifted os started H enc)


/-- The statement. -/
theorem proved : Rows.FnActAsSaid :=
  over
#print axioms proved
end Go.Proofs.Ytbiaamipfhgfeaa.fnActAs
