/-
  Real stays, Saved is Acts then, and the credential is valid.
  Conditions: none.
-/
import Derived.Test.YtbiaamipfhgfeaaRdW
import Derived.Test.YtbiaamipfhgfeaaCmp
import Derived.Test.YtbiaamipfhgfeaaAlive
namespace Go.Proofs.Ytbiaamipfhgfeaa.fnRunAs
open Go.ChangeShapes Go.WideShapes Go.ChangeAt Go.RowKit
open Go.ChangeMaps (open_string)
set_option linter.unusedVariables false
open Vc
attribute [local irreducible] WpC WpL WpD WpE WpB CallV QCallV Made AppV Ld LdN Ix EndV I64 MutN Mut CellsAt
theorem runAs_law (c : Cr) (x : Int) (f : Bool) : ((c.ok && inR x 0 99) = false → runAsC c x f = ⟨0, 0, 0, 0⟩) ∧
    ((c.ok && inR x 0 99) = true → (runAsC c x f).ok = true ∧ (runAsC c x f).real = c.real ∧ (runAsC c x f).saved = (runAsC c x f).acts ∧ (runAsC c x f).groups = c.groups ∧ (f = true → (runAsC c x f).acts = x) ∧ (f = false → (runAsC c x f).acts = c.acts)) := by
  refine ⟨fun h => by rw [runAsC, if_neg (by rw [h]; simp)], fun h => ?_⟩
  have h' := h
  rw [Bool.and_eq_true] at h'
  have ho := Cr.ok_iff.1 h'.1
  have hi := inR_iff.1 h'.2
  rw [runAsC, if_pos h]
  cases f
  · exact ⟨Cr.ok_iff.2 ⟨ho.1, ho.2.1, ho.2.1, ho.2.2.2⟩, rfl, rfl, rfl, ⟨fun e => absurd e (by simp), fun _ => rfl⟩⟩
  · exact ⟨Cr.ok_iff.2 ⟨ho.1, hi, hi, ho.2.2.2⟩, rfl, rfl, rfl, ⟨fun _ => rfl, fun e => absurd e (by simp)⟩⟩
set_option maxHeartbeats 1000000 in
theorem walk (v0 : Value) (w : World) (w0 : CodeAt w v0) :
    Calls Try.prog 12 #[v0] w fun e w' => e = .returned (.bool true) ∧ Below w.heap.size w w' := by
  obtain ⟨ad, len, cap, bs, rfl, hlc, hcm, hbl, hbd, hcell⟩ := w0
  have h0 : CodeAt w (.slice ad len cap) := ⟨ad, len, cap, bs, rfl, hlc, hcm, hbl, hbd, hcell⟩
  refine calls_of cx_ok Try.func12 Try.ntmps12 Try.results12 rfl rfl ?_
  repeat (first | refine WpL.eqC ?_ | refine WpL.neC ?_ | refine WpD.neC ?_ | refine jC ?_ | refine jN ?_ | refine jS ?_ | refine jR ?_ | refine jT ?_ | refine jB ?_ | refine jX rfl ?_ | refine jY rfl ?_ | refine jK ?_ | refine jD ?_ | refine jE ?_)
  refine Br.intro (fun h => ?_) (fun h => ?_)
  · repeat (first | refine WpL.eqC ?_ | refine WpL.neC ?_ | refine WpD.neC ?_ | refine jC ?_ | refine jN ?_ | refine jS ?_ | refine jR ?_ | refine jT ?_ | refine jB ?_ | refine jX rfl ?_ | refine jY rfl ?_ | refine jK ?_ | refine jD ?_ | refine jE ?_)
    exact EndV.val rfl (Ext.refl _)
  repeat (first | refine WpL.eqC ?_ | refine WpL.neC ?_ | refine WpD.neC ?_ | refine jC ?_ | refine jN ?_ | refine jS ?_ | refine jR ?_ | refine jT ?_ | refine jB ?_ | refine jX rfl ?_ | refine jY rfl ?_ | refine jK ?_ | refine jD ?_ | refine jE ?_)
  refine CallV.mem (fun v _ _ => ∃ (c : Cr) (x : Int) (b : Bool), v = .tuple #[c.v, .int .i64 x, .bool b] ∧ c.small ∧ (-1 ≤ x ∧ x ≤ 100)) (fun w' hw _ => (dRunAs_vc _ w' (h0.below hw)).mono fun e w1 ⟨c, x, b, h1, h2, h3, h4⟩ => ⟨_, h1, ⟨c, x, b, rfl, h2, h3⟩, h4⟩) (fun v wa wb hx1 hx2 _ ⟨c, x, f, e, hsm, hx⟩ => ?_)
  subst e
  repeat (first | refine WpL.eqC ?_ | refine WpL.neC ?_ | refine WpD.neC ?_ | refine jC ?_ | refine jN ?_ | refine jS ?_ | refine jR ?_ | refine jT ?_ | refine jB ?_ | refine jX rfl ?_ | refine jY rfl ?_ | refine jK ?_ | refine jD ?_ | refine jE ?_)
  intro b3 hb3
  repeat (first | refine WpL.eqC ?_ | refine WpL.neC ?_ | refine WpD.neC ?_ | refine jC ?_ | refine jN ?_ | refine jS ?_ | refine jR ?_ | refine jT ?_ | refine jB ?_ | refine jX rfl ?_ | refine jY rfl ?_ | refine jK ?_ | refine jD ?_ | refine jE ?_)
  refine ⟨by assumption, rfl, by simp, by simp [Value.oneCell'], ?_⟩
  repeat (first | refine WpL.eqC ?_ | refine WpL.neC ?_ | refine WpD.neC ?_ | refine jC ?_ | refine jN ?_ | refine jS ?_ | refine jR ?_ | refine jT ?_ | refine jB ?_ | refine jX rfl ?_ | refine jY rfl ?_ | refine jK ?_ | refine jD ?_ | refine jE ?_)
  refine CallV.val (fun w' hw _ => iRunAs_any c x f w') ?_
  repeat (first | refine WpL.eqC ?_ | refine WpL.neC ?_ | refine WpD.neC ?_ | refine jC ?_ | refine jN ?_ | refine jS ?_ | refine jR ?_ | refine jT ?_ | refine jB ?_ | refine jX rfl ?_ | refine jY rfl ?_ | refine jK ?_ | refine jD ?_ | refine jE ?_)
  intro b5 hb5
  repeat (first | refine WpL.eqC ?_ | refine WpL.neC ?_ | refine WpD.neC ?_ | refine jC ?_ | refine jN ?_ | refine jS ?_ | refine jR ?_ | refine jT ?_ | refine jB ?_ | refine jX rfl ?_ | refine jY rfl ?_ | refine jK ?_ | refine jD ?_ | refine jE ?_)
  refine ⟨by assumption, rfl, by simp, by simp [Value.oneCell'], ?_⟩
  repeat (first | refine WpL.eqC ?_ | refine WpL.neC ?_ | refine WpD.neC ?_ | refine jC ?_ | refine jN ?_ | refine jS ?_ | refine jR ?_ | refine jT ?_ | refine jB ?_ | refine jX rfl ?_ | refine jY rfl ?_ | refine jK ?_ | refine jD ?_ | refine jE ?_)
  refine WpC.draw (by kernel_rfl) ?_
  repeat (first | refine WpL.eqC ?_ | refine WpL.neC ?_ | refine WpD.neC ?_ | refine jC ?_ | refine jN ?_ | refine jS ?_ | refine jR ?_ | refine jT ?_ | refine jB ?_ | refine jX rfl ?_ | refine jY rfl ?_ | refine jK ?_ | refine jD ?_ | refine jE ?_)
  refine QCallV.val (fun w' hw _ => sRunAs_any c x f w') ?_
  repeat (first | refine WpL.eqC ?_ | refine WpL.neC ?_ | refine WpD.neC ?_ | refine jC ?_ | refine jN ?_ | refine jS ?_ | refine jR ?_ | refine jT ?_ | refine jB ?_ | refine jX rfl ?_ | refine jY rfl ?_ | refine jK ?_ | refine jD ?_ | refine jE ?_)
  refine ⟨runAsC c x f, runAsC c x f, rfl, rfl, ?_⟩
  rw [Cr.same_self]
  obtain ⟨F1, F2⟩ := runAs_law c x f
  have hxb := hx1.trans hx2
  generalize runAsC c x f = X at *
  repeat (first | refine WpL.eqC ?_ | refine WpL.neC ?_ | refine WpD.neC ?_ | refine jC ?_ | refine jN ?_ | refine jS ?_ | refine jR ?_ | refine jT ?_ | refine jB ?_ | refine jX rfl ?_ | refine jY rfl ?_ | refine jK ?_ | refine jD ?_ | refine jE ?_)
  refine CallV.val (fun w' hw _ => (iCredValid_any c w')) ?_
  repeat (first | refine WpL.eqC ?_ | refine WpL.neC ?_ | refine WpD.neC ?_ | refine jC ?_ | refine jN ?_ | refine jS ?_ | refine jR ?_ | refine jT ?_ | refine jB ?_ | refine jX rfl ?_ | refine jY rfl ?_ | refine jK ?_ | refine jD ?_ | refine jE ?_)
  cases hok : c.ok
  · have hno : (c.ok && inR x 0 99) = false := by rw [hok]; rfl
    repeat (first | refine WpL.eqC ?_ | refine WpL.neC ?_ | refine WpD.neC ?_ | refine jC ?_ | refine jN ?_ | refine jS ?_ | refine jR ?_ | refine jT ?_ | refine jB ?_ | refine jX rfl ?_ | refine jY rfl ?_ | refine jK ?_ | refine jD ?_ | refine jE ?_)
    refine ⟨X, ⟨0, 0, 0, 0⟩, rfl, rfl, ?_⟩
    rw [Cr.same_iff.2 (F1 hno)]
    repeat (first | refine WpL.eqC ?_ | refine WpL.neC ?_ | refine WpD.neC ?_ | refine jC ?_ | refine jN ?_ | refine jS ?_ | refine jR ?_ | refine jT ?_ | refine jB ?_ | refine jX rfl ?_ | refine jY rfl ?_ | refine jK ?_ | refine jD ?_ | refine jE ?_)
    refine CallV.val (fun w' _ _ => (alive_any w').of_same) ?_
    repeat (first | refine WpL.eqC ?_ | refine WpL.neC ?_ | refine WpD.neC ?_ | refine jC ?_ | refine jN ?_ | refine jS ?_ | refine jR ?_ | refine jT ?_ | refine jB ?_ | refine jX rfl ?_ | refine jY rfl ?_ | refine jK ?_ | refine jD ?_ | refine jE ?_)
    exact EndV.val rfl hxb
  repeat (first | refine WpL.eqC ?_ | refine WpL.neC ?_ | refine WpD.neC ?_ | refine jC ?_ | refine jN ?_ | refine jS ?_ | refine jR ?_ | refine jT ?_ | refine jB ?_ | refine jX rfl ?_ | refine jY rfl ?_ | refine jK ?_ | refine jD ?_ | refine jE ?_)
  refine Br.intro (fun h1 => ?_) (fun h1 => ?_)
  · have hno : (c.ok && inR x 0 99) = false := by rw [inR_not.2 (by have := of_decide_eq_true h1; omega)]; simp
    repeat (first | refine WpL.eqC ?_ | refine WpL.neC ?_ | refine WpD.neC ?_ | refine jC ?_ | refine jN ?_ | refine jS ?_ | refine jR ?_ | refine jT ?_ | refine jB ?_ | refine jX rfl ?_ | refine jY rfl ?_ | refine jK ?_ | refine jD ?_ | refine jE ?_)
    refine ⟨X, ⟨0, 0, 0, 0⟩, rfl, rfl, ?_⟩
    rw [Cr.same_iff.2 (F1 hno)]
    repeat (first | refine WpL.eqC ?_ | refine WpL.neC ?_ | refine WpD.neC ?_ | refine jC ?_ | refine jN ?_ | refine jS ?_ | refine jR ?_ | refine jT ?_ | refine jB ?_ | refine jX rfl ?_ | refine jY rfl ?_ | refine jK ?_ | refine jD ?_ | refine jE ?_)
    refine CallV.val (fun w' _ _ => (alive_any w').of_same) ?_
    repeat (first | refine WpL.eqC ?_ | refine WpL.neC ?_ | refine WpD.neC ?_ | refine jC ?_ | refine jN ?_ | refine jS ?_ | refine jR ?_ | refine jT ?_ | refine jB ?_ | refine jX rfl ?_ | refine jY rfl ?_ | refine jK ?_ | refine jD ?_ | refine jE ?_)
    exact EndV.val rfl hxb
  repeat (first | refine WpL.eqC ?_ | refine WpL.neC ?_ | refine WpD.neC ?_ | refine jC ?_ | refine jN ?_ | refine jS ?_ | refine jR ?_ | refine jT ?_ | refine jB ?_ | refine jX rfl ?_ | refine jY rfl ?_ | refine jK ?_ | refine jD ?_ | refine jE ?_)
  refine Br.intro (fun h2 => ?_) (fun h2 => ?_)
  · have hno : (c.ok && inR x 0 99) = false := by rw [inR_not.2 (by have := of_decide_eq_true h2; omega)]; simp
    repeat (first | refine WpL.eqC ?_ | refine WpL.neC ?_ | refine WpD.neC ?_ | refine jC ?_ | refine jN ?_ | refine jS ?_ | refine jR ?_ | refine jT ?_ | refine jB ?_ | refine jX rfl ?_ | refine jY rfl ?_ | refine jK ?_ | refine jD ?_ | refine jE ?_)
    refine ⟨X, ⟨0, 0, 0, 0⟩, rfl, rfl, ?_⟩
    rw [Cr.same_iff.2 (F1 hno)]
    repeat (first | refine WpL.eqC ?_ | refine WpL.neC ?_ | refine WpD.neC ?_ | refine jC ?_ | refine jN ?_ | refine jS ?_ | refine jR ?_ | refine jT ?_ | refine jB ?_ | refine jX rfl ?_ | refine jY rfl ?_ | refine jK ?_ | refine jD ?_ | refine jE ?_)
    refine CallV.val (fun w' _ _ => (alive_any w').of_same) ?_
    repeat (first | refine WpL.eqC ?_ | refine WpL.neC ?_ | refine WpD.neC ?_ | refine jC ?_ | refine jN ?_ | refine jS ?_ | refine jR ?_ | refine jT ?_ | refine jB ?_ | refine jX rfl ?_ | refine jY rfl ?_ | refine jK ?_ | refine jD ?_ | refine jE ?_)
    exact EndV.val rfl hxb
  have hyes : (c.ok && inR x 0 99) = true := by
    rw [hok, inR_iff.2 (by have := of_decide_eq_false h1; have := of_decide_eq_false h2; omega)]; rfl
  obtain ⟨e1, e2, e3, e4, e5, e6⟩ := F2 hyes
  repeat (first | refine WpL.eqC ?_ | refine WpL.neC ?_ | refine WpD.neC ?_ | refine jC ?_ | refine jN ?_ | refine jS ?_ | refine jR ?_ | refine jT ?_ | refine jB ?_ | refine jX rfl ?_ | refine jY rfl ?_ | refine jK ?_ | refine jD ?_ | refine jE ?_)
  refine CallV.val (fun w' hw _ => (iCredValid_any X w')) ?_
  rw [e1]
  repeat (first | refine WpL.eqC ?_ | refine WpL.neC ?_ | refine WpD.neC ?_ | refine jC ?_ | refine jN ?_ | refine jS ?_ | refine jR ?_ | refine jT ?_ | refine jB ?_ | refine jX rfl ?_ | refine jY rfl ?_ | refine jK ?_ | refine jD ?_ | refine jE ?_)
  refine Br.yes (by simp [e2]) ?_
  repeat (first | refine WpL.eqC ?_ | refine WpL.neC ?_ | refine WpD.neC ?_ | refine jC ?_ | refine jN ?_ | refine jS ?_ | refine jR ?_ | refine jT ?_ | refine jB ?_ | refine jX rfl ?_ | refine jY rfl ?_ | refine jK ?_ | refine jD ?_ | refine jE ?_)
  refine Br.yes (by simp [e3]) ?_
  repeat (first | refine WpL.eqC ?_ | refine WpL.neC ?_ | refine WpD.neC ?_ | refine jC ?_ | refine jN ?_ | refine jS ?_ | refine jR ?_ | refine jT ?_ | refine jB ?_ | refine jX rfl ?_ | refine jY rfl ?_ | refine jK ?_ | refine jD ?_ | refine jE ?_)
  refine Br.yes (by simp [e4]) ?_
  repeat (first | refine WpL.eqC ?_ | refine WpL.neC ?_ | refine WpD.neC ?_ | refine jC ?_ | refine jN ?_ | refine jS ?_ | refine jR ?_ | refine jT ?_ | refine jB ?_ | refine jX rfl ?_ | refine jY rfl ?_ | refine jK ?_ | refine jD ?_ | refine jE ?_)
  cases f
  · repeat (first | refine WpL.eqC ?_ | refine WpL.neC ?_ | refine WpD.neC ?_ | refine jC ?_ | refine jN ?_ | refine jS ?_ | refine jR ?_ | refine jT ?_ | refine jB ?_ | refine jX rfl ?_ | refine jY rfl ?_ | refine jK ?_ | refine jD ?_ | refine jE ?_)
    exact EndV.val (by simp [e6]) hxb
  · repeat (first | refine WpL.eqC ?_ | refine WpL.neC ?_ | refine WpD.neC ?_ | refine jC ?_ | refine jN ?_ | refine jS ?_ | refine jR ?_ | refine jT ?_ | refine jB ?_ | refine jX rfl ?_ | refine jY rfl ?_ | refine jK ?_ | refine jD ?_ | refine jE ?_)
    refine Br.yes (by simp [e5]) ?_
    repeat (first | refine WpL.eqC ?_ | refine WpL.neC ?_ | refine WpD.neC ?_ | refine jC ?_ | refine jN ?_ | refine jS ?_ | refine jR ?_ | refine jT ?_ | refine jB ?_ | refine jX rfl ?_ | refine jY rfl ?_ | refine jK ?_ | refine jD ?_ | refine jE ?_)
    exact EndV.val rfl hxb

set_option maxRecDepth 100000 in
theorem lifted (os : Os) (started : os.Started) (H : Type) (enc : TypeId × Value → H) :
    ReturnsInHanded {} Try.checked os 12 .any (Rows.fnRunAsSpec.pre6 enc Try.prog Try.f12 Rows.fnRunAsRow.domain false) (Rows.fnRunAsSpec.post enc Try.prog Try.f12 false true false false) := by
  refine returnsInHanded_of_change (C := Try.checked) own started (by kernel_rfl) Try.func12
    (ChangeSpec.witness6 (enc := enc) (C := Try.checked) false ⟨#[], #[.slice none 0 0], []⟩ 8 (by kernel_rfl) (by kernel_rfl) (by kernel_rfl) (by kernel_rfl)) ?_
  intro W base args ds gs before hval0 hW hcnd _
  have hval : ∀ (j : Nat) t v, Try.f12.params[j]? = some t → args[j]? = some v → Value.okWide Try.prog W .any base t v := hval0
  have hW' := hW
  have hltb : ∀ x ∈ before, x.block < W.heap.size := fun x hx => hW.lt x hx
  obtain ⟨p, q, hA0, hV, rfl, hfz, hnd⟩ := hW
  have hA : DataW.TrodAll enc Try.prog W 0 (fun _ => true) true Try.f12.params.toList args.toList ds p := hA0
  have hlt : ∀ x ∈ p, x.block < W.heap.size := fun x hx => hltb x (List.mem_append_left _ hx)
  have hAll := hA
  rw [Try.params12] at hA hval
  obtain ⟨v0, vs0, d0, ds0, p0, q0, hargs, rfl, rfl, h0, r0⟩ := trodAll_cons hA
  obtain ⟨rfl, rfl, rfl⟩ := trodAll_nil r0
  obtain rfl : args = #[v0] := by cases args; simp_all
  obtain ⟨rfl, rfl⟩ := trodVars_none hV
  clear hA0 hval0
  have hlt0 : ∀ x ∈ p0, x.block < W.heap.size := fun x hx => hlt x (by simp [hx])
  have w0 := open_bytes (hval 0 22 v0 rfl rfl) h0 hlt0
  simp only [List.append_nil] at hW' hltb hAll
  refine (walk v0 W w0).mono fun e W' ⟨he, hg⟩ => ?_
  subst he
  exact ⟨_, rfl, post_of_below (pa := _) (pv := []) hW' (fun _ _ _ => (trodAll_cons_mk (shut_bool Try.underlying4 _) trodAll_mk0))
    (fun sp hsp => trodAll_stays laidOut hg (by kernel_rfl) hAll hltb sp hsp) (fun _ _ => rfl) (by simp) hg (ok_one (by kernel_rfl) rfl (okWide_bool_mk Try.underlying4 _))⟩

theorem over : Rows.fnRunAsRow.holds Try.pinned (OpenSpec.ofChange Rows.fnRunAsSpec) :=
  OpenClaim.holds_of_wide 12 Try.f12 rfl rfl rfl rfl rfl rfl rfl ⟨rfl, rfl, rfl, rfl, rfl⟩ rfl rfl rfl rfl rfl (by kernel_rfl) Try.func12 (by kernel_rfl)
    (of_decide_eq_true (by kernel_rfl)) (by unfold Func.isWrapper; first | (rw [if_pos (by decide +kernel)]; kernel_rfl) | (rw [if_neg (by decide +kernel)]; exact ⟨rfl, rfl⟩))
    (fun os started H enc _ => lifted os started H enc)


/-- The statement. -/
theorem proved : Rows.FnRunAsSaid :=
  over
#print axioms proved
end Go.Proofs.Ytbiaamipfhgfeaa.fnRunAs
