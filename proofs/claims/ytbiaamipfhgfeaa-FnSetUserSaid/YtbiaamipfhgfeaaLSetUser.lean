/-
  Who does not act for the user 0 acts for Real or Saved then, and neither of these changes; who does can be everyone, and never comes back.
  Conditions: none.
-/
import Derived.Test.YtbiaamipfhgfeaaRdV
import Derived.Test.YtbiaamipfhgfeaaCmp
import Derived.Test.YtbiaamipfhgfeaaAlive
namespace Go.Proofs.Ytbiaamipfhgfeaa.fnSetUser
open Go.ChangeShapes Go.WideShapes Go.ChangeAt Go.RowKit
open Go.ChangeMaps (open_string)
set_option linter.unusedVariables false
open Vc
attribute [local irreducible] WpC WpL WpD WpE WpB CallV QCallV Made AppV Ld LdN Ix EndV I64 MutN Mut CellsAt
theorem setUser_law (c : Cr) (x : Int) : (setUserB c x = false → (setUserC c x).same c = true ∨ (setUserC c x).same ⟨0, 0, 0, 0⟩ = true) ∧
    (setUserB c x = true → c.acts ≠ 0 → (setUserC c x).real = c.real ∧ (setUserC c x).saved = c.saved ∧ ((setUserC c x).acts = c.real ∨ (setUserC c x).acts = c.saved)) ∧
    (setUserB c x = true → c.acts = 0 → (setUserC c x).real = x ∧ (setUserC c x).acts = x ∧ (setUserC c x).saved = x ∧ setUserB (setUserC c x) 0 = decide (x = 0)) := by
  simp only [Cr.same_iff]
  by_cases h : (c.ok && inR x 0 99) = true
  · have h' := h
    rw [Bool.and_eq_true] at h'
    obtain ⟨h1, h2⟩ := h'
    have ho := Cr.ok_iff.1 h1
    have hi := inR_iff.1 h2
    unfold setUserB setUserC
    rw [if_pos h, h]
    by_cases ha : c.acts = 0
    · refine ⟨fun e => by simp [ha] at e, fun _ e => absurd ha e, fun _ _ => ?_⟩
      rw [if_pos ha]
      refine ⟨rfl, rfl, rfl, ?_⟩
      have hk : (⟨x, x, x, c.groups⟩ : Cr).ok = true := Cr.ok_iff.2 ⟨hi, hi, hi, ho.2.2.2⟩
      have h0 : inR 0 0 99 = true := inR_iff.2 (by omega)
      rw [hk, h0]
      by_cases hx : x = 0
      · simp [hx]
      · have : ¬ (0 : Int) = x := fun e => hx e.symm
        simp [hx, this]
    · rw [if_neg ha]
      refine ⟨fun e => ?_, fun e _ => ?_, fun _ e => absurd e ha⟩
      · simp [ha] at e
        rw [if_neg (by omega)]; exact .inl rfl
      · simp [ha] at e
        rw [if_pos e]
        exact ⟨rfl, rfl, e⟩
  · unfold setUserB setUserC
    rw [if_neg h]
    have h' : (c.ok && inR x 0 99) = false := by simpa using h
    rw [h']
    exact ⟨fun _ => .inr rfl, fun e => by simp at e, fun e => by simp at e⟩
set_option maxHeartbeats 1000000 in
theorem walk (v0 : Value) (w : World) (w0 : CodeAt w v0) :
    Calls Try.prog 9 #[v0] w fun e w' => e = .returned (.bool true) ∧ Below w.heap.size w w' := by
  obtain ⟨ad, len, cap, bs, rfl, hlc, hcm, hbl, hbd, hcell⟩ := w0
  have h0 : CodeAt w (.slice ad len cap) := ⟨ad, len, cap, bs, rfl, hlc, hcm, hbl, hbd, hcell⟩
  refine calls_of cx_ok Try.func9 Try.ntmps9 Try.results9 rfl rfl ?_
  repeat (first | refine WpL.eqC ?_ | refine WpL.neC ?_ | refine WpD.neC ?_ | refine jC ?_ | refine jN ?_ | refine jS ?_ | refine jR ?_ | refine jT ?_ | refine jB ?_ | refine jX rfl ?_ | refine jY rfl ?_ | refine jK ?_ | refine jD ?_ | refine jE ?_)
  refine Br.intro (fun h => ?_) (fun h => ?_)
  · repeat (first | refine WpL.eqC ?_ | refine WpL.neC ?_ | refine WpD.neC ?_ | refine jC ?_ | refine jN ?_ | refine jS ?_ | refine jR ?_ | refine jT ?_ | refine jB ?_ | refine jX rfl ?_ | refine jY rfl ?_ | refine jK ?_ | refine jD ?_ | refine jE ?_)
    exact EndV.val rfl (Ext.refl _)
  repeat (first | refine WpL.eqC ?_ | refine WpL.neC ?_ | refine WpD.neC ?_ | refine jC ?_ | refine jN ?_ | refine jS ?_ | refine jR ?_ | refine jT ?_ | refine jB ?_ | refine jX rfl ?_ | refine jY rfl ?_ | refine jK ?_ | refine jD ?_ | refine jE ?_)
  refine CallV.mem (fun v _ _ => ∃ (c : Cr) (x : Int), v = .tuple #[c.v, .int .i64 x] ∧ c.small ∧ (-1 ≤ x ∧ x ≤ 100)) (fun w' hw _ => (dSetUser_vc _ w' (h0.below hw)).mono fun e w1 ⟨c, x, h1, h2, h3, h4⟩ => ⟨_, h1, ⟨c, x, rfl, h2, h3⟩, h4⟩) (fun v wa wb hx1 hx2 _ ⟨c, x, e, hsm, hx⟩ => ?_)
  subst e
  repeat (first | refine WpL.eqC ?_ | refine WpL.neC ?_ | refine WpD.neC ?_ | refine jC ?_ | refine jN ?_ | refine jS ?_ | refine jR ?_ | refine jT ?_ | refine jB ?_ | refine jX rfl ?_ | refine jY rfl ?_ | refine jK ?_ | refine jD ?_ | refine jE ?_)
  intro b3 hb3
  repeat (first | refine WpL.eqC ?_ | refine WpL.neC ?_ | refine WpD.neC ?_ | refine jC ?_ | refine jN ?_ | refine jS ?_ | refine jR ?_ | refine jT ?_ | refine jB ?_ | refine jX rfl ?_ | refine jY rfl ?_ | refine jK ?_ | refine jD ?_ | refine jE ?_)
  refine ⟨by assumption, rfl, by simp, by simp [Value.oneCell'], ?_⟩
  repeat (first | refine WpL.eqC ?_ | refine WpL.neC ?_ | refine WpD.neC ?_ | refine jC ?_ | refine jN ?_ | refine jS ?_ | refine jR ?_ | refine jT ?_ | refine jB ?_ | refine jX rfl ?_ | refine jY rfl ?_ | refine jK ?_ | refine jD ?_ | refine jE ?_)
  refine CallV.val (fun w' hw _ => iSetUser_any c x w') ?_
  repeat (first | refine WpL.eqC ?_ | refine WpL.neC ?_ | refine WpD.neC ?_ | refine jC ?_ | refine jN ?_ | refine jS ?_ | refine jR ?_ | refine jT ?_ | refine jB ?_ | refine jX rfl ?_ | refine jY rfl ?_ | refine jK ?_ | refine jD ?_ | refine jE ?_)
  intro b5 hb5
  repeat (first | refine WpL.eqC ?_ | refine WpL.neC ?_ | refine WpD.neC ?_ | refine jC ?_ | refine jN ?_ | refine jS ?_ | refine jR ?_ | refine jT ?_ | refine jB ?_ | refine jX rfl ?_ | refine jY rfl ?_ | refine jK ?_ | refine jD ?_ | refine jE ?_)
  refine ⟨by assumption, rfl, by simp, by simp [Value.oneCell'], ?_⟩
  repeat (first | refine WpL.eqC ?_ | refine WpL.neC ?_ | refine WpD.neC ?_ | refine jC ?_ | refine jN ?_ | refine jS ?_ | refine jR ?_ | refine jT ?_ | refine jB ?_ | refine jX rfl ?_ | refine jY rfl ?_ | refine jK ?_ | refine jD ?_ | refine jE ?_)
  refine CallV.val (fun w' hw _ => sSetUser_any c x w') ?_
  repeat (first | refine WpL.eqC ?_ | refine WpL.neC ?_ | refine WpD.neC ?_ | refine jC ?_ | refine jN ?_ | refine jS ?_ | refine jR ?_ | refine jT ?_ | refine jB ?_ | refine jX rfl ?_ | refine jY rfl ?_ | refine jK ?_ | refine jD ?_ | refine jE ?_)
  intro b7 hb7
  repeat (first | refine WpL.eqC ?_ | refine WpL.neC ?_ | refine WpD.neC ?_ | refine jC ?_ | refine jN ?_ | refine jS ?_ | refine jR ?_ | refine jT ?_ | refine jB ?_ | refine jX rfl ?_ | refine jY rfl ?_ | refine jK ?_ | refine jD ?_ | refine jE ?_)
  refine ⟨by assumption, rfl, by simp, by simp [Value.oneCell'], ?_⟩
  repeat (first | refine WpL.eqC ?_ | refine WpL.neC ?_ | refine WpD.neC ?_ | refine jC ?_ | refine jN ?_ | refine jS ?_ | refine jR ?_ | refine jT ?_ | refine jB ?_ | refine jX rfl ?_ | refine jY rfl ?_ | refine jK ?_ | refine jD ?_ | refine jE ?_)
  refine ⟨setUserC c x, setUserC c x, rfl, rfl, ?_⟩
  rw [Cr.same_self]
  obtain ⟨F1, F2, F3⟩ := setUser_law c x
  generalize setUserC c x = X at *
  generalize setUserB c x = B at *
  repeat (first | refine WpL.eqC ?_ | refine WpL.neC ?_ | refine WpD.neC ?_ | refine jC ?_ | refine jN ?_ | refine jS ?_ | refine jR ?_ | refine jT ?_ | refine jB ?_ | refine jX rfl ?_ | refine jY rfl ?_ | refine jK ?_ | refine jD ?_ | refine jE ?_)
  refine Br.no (by simp) ?_
  repeat (first | refine WpL.eqC ?_ | refine WpL.neC ?_ | refine WpD.neC ?_ | refine jC ?_ | refine jN ?_ | refine jS ?_ | refine jR ?_ | refine jT ?_ | refine jB ?_ | refine jX rfl ?_ | refine jY rfl ?_ | refine jK ?_ | refine jD ?_ | refine jE ?_)
  have hxb := hx1.trans hx2
  cases hB : B
  · repeat (first | refine WpL.eqC ?_ | refine WpL.neC ?_ | refine WpD.neC ?_ | refine jC ?_ | refine jN ?_ | refine jS ?_ | refine jR ?_ | refine jT ?_ | refine jB ?_ | refine jX rfl ?_ | refine jY rfl ?_ | refine jK ?_ | refine jD ?_ | refine jE ?_)
    refine ⟨X, c, rfl, rfl, ?_⟩
    repeat (first | refine WpL.eqC ?_ | refine WpL.neC ?_ | refine WpD.neC ?_ | refine jC ?_ | refine jN ?_ | refine jS ?_ | refine jR ?_ | refine jT ?_ | refine jB ?_ | refine jX rfl ?_ | refine jY rfl ?_ | refine jK ?_ | refine jD ?_ | refine jE ?_)
    cases hs : X.same c
    · have hz := (F1 hB).resolve_left (by rw [hs]; simp)
      repeat (first | refine WpL.eqC ?_ | refine WpL.neC ?_ | refine WpD.neC ?_ | refine jC ?_ | refine jN ?_ | refine jS ?_ | refine jR ?_ | refine jT ?_ | refine jB ?_ | refine jX rfl ?_ | refine jY rfl ?_ | refine jK ?_ | refine jD ?_ | refine jE ?_)
      refine ⟨X, ⟨0, 0, 0, 0⟩, rfl, rfl, ?_⟩
      rw [hz]
      repeat (first | refine WpL.eqC ?_ | refine WpL.neC ?_ | refine WpD.neC ?_ | refine jC ?_ | refine jN ?_ | refine jS ?_ | refine jR ?_ | refine jT ?_ | refine jB ?_ | refine jX rfl ?_ | refine jY rfl ?_ | refine jK ?_ | refine jD ?_ | refine jE ?_)
      refine CallV.val (fun w' _ _ => (alive_any w').of_same) ?_
      repeat (first | refine WpL.eqC ?_ | refine WpL.neC ?_ | refine WpD.neC ?_ | refine jC ?_ | refine jN ?_ | refine jS ?_ | refine jR ?_ | refine jT ?_ | refine jB ?_ | refine jX rfl ?_ | refine jY rfl ?_ | refine jK ?_ | refine jD ?_ | refine jE ?_)
      exact EndV.val rfl hxb
    · repeat (first | refine WpL.eqC ?_ | refine WpL.neC ?_ | refine WpD.neC ?_ | refine jC ?_ | refine jN ?_ | refine jS ?_ | refine jR ?_ | refine jT ?_ | refine jB ?_ | refine jX rfl ?_ | refine jY rfl ?_ | refine jK ?_ | refine jD ?_ | refine jE ?_)
      refine CallV.val (fun w' _ _ => (alive_any w').of_same) ?_
      repeat (first | refine WpL.eqC ?_ | refine WpL.neC ?_ | refine WpD.neC ?_ | refine jC ?_ | refine jN ?_ | refine jS ?_ | refine jR ?_ | refine jT ?_ | refine jB ?_ | refine jX rfl ?_ | refine jY rfl ?_ | refine jK ?_ | refine jD ?_ | refine jE ?_)
      exact EndV.val rfl hxb
  · repeat (first | refine WpL.eqC ?_ | refine WpL.neC ?_ | refine WpD.neC ?_ | refine jC ?_ | refine jN ?_ | refine jS ?_ | refine jR ?_ | refine jT ?_ | refine jB ?_ | refine jX rfl ?_ | refine jY rfl ?_ | refine jK ?_ | refine jD ?_ | refine jE ?_)
    refine Br.intro (fun h3 => ?_) (fun h3 => ?_)
    · have ha : c.acts ≠ 0 := by simpa using h3
      obtain ⟨e1, e2, e3⟩ := F2 hB ha
      repeat (first | refine WpL.eqC ?_ | refine WpL.neC ?_ | refine WpD.neC ?_ | refine jC ?_ | refine jN ?_ | refine jS ?_ | refine jR ?_ | refine jT ?_ | refine jB ?_ | refine jX rfl ?_ | refine jY rfl ?_ | refine jK ?_ | refine jD ?_ | refine jE ?_)
      refine Br.yes (by simp [e1]) ?_
      repeat (first | refine WpL.eqC ?_ | refine WpL.neC ?_ | refine WpD.neC ?_ | refine jC ?_ | refine jN ?_ | refine jS ?_ | refine jR ?_ | refine jT ?_ | refine jB ?_ | refine jX rfl ?_ | refine jY rfl ?_ | refine jK ?_ | refine jD ?_ | refine jE ?_)
      refine Br.yes (by simp [e2]) ?_
      repeat (first | refine WpL.eqC ?_ | refine WpL.neC ?_ | refine WpD.neC ?_ | refine jC ?_ | refine jN ?_ | refine jS ?_ | refine jR ?_ | refine jT ?_ | refine jB ?_ | refine jX rfl ?_ | refine jY rfl ?_ | refine jK ?_ | refine jD ?_ | refine jE ?_)
      by_cases he : X.acts = c.real
      · refine Br.yes (by simp [he]) ?_
        repeat (first | refine WpL.eqC ?_ | refine WpL.neC ?_ | refine WpD.neC ?_ | refine jC ?_ | refine jN ?_ | refine jS ?_ | refine jR ?_ | refine jT ?_ | refine jB ?_ | refine jX rfl ?_ | refine jY rfl ?_ | refine jK ?_ | refine jD ?_ | refine jE ?_)
        refine EndV.val ?_ hxb
        simp
      · have he2 := e3.resolve_left he
        refine Br.no (by simp [he]) ?_
        repeat (first | refine WpL.eqC ?_ | refine WpL.neC ?_ | refine WpD.neC ?_ | refine jC ?_ | refine jN ?_ | refine jS ?_ | refine jR ?_ | refine jT ?_ | refine jB ?_ | refine jX rfl ?_ | refine jY rfl ?_ | refine jK ?_ | refine jD ?_ | refine jE ?_)
        exact EndV.val (by simp [he2]) hxb
    · have ha : c.acts = 0 := by simpa using h3
      obtain ⟨e1, e2, e3, e4⟩ := F3 hB ha
      repeat (first | refine WpL.eqC ?_ | refine WpL.neC ?_ | refine WpD.neC ?_ | refine jC ?_ | refine jN ?_ | refine jS ?_ | refine jR ?_ | refine jT ?_ | refine jB ?_ | refine jX rfl ?_ | refine jY rfl ?_ | refine jK ?_ | refine jD ?_ | refine jE ?_)
      refine CallV.val (fun w' hw _ => iSetUser_any X 0 w') ?_
      repeat (first | refine WpL.eqC ?_ | refine WpL.neC ?_ | refine WpD.neC ?_ | refine jC ?_ | refine jN ?_ | refine jS ?_ | refine jR ?_ | refine jT ?_ | refine jB ?_ | refine jX rfl ?_ | refine jY rfl ?_ | refine jK ?_ | refine jD ?_ | refine jE ?_)
      intro b9 hb9
      repeat (first | refine WpL.eqC ?_ | refine WpL.neC ?_ | refine WpD.neC ?_ | refine jC ?_ | refine jN ?_ | refine jS ?_ | refine jR ?_ | refine jT ?_ | refine jB ?_ | refine jX rfl ?_ | refine jY rfl ?_ | refine jK ?_ | refine jD ?_ | refine jE ?_)
      refine ⟨by assumption, rfl, by simp, by simp [Value.oneCell'], ?_⟩
      repeat (first | refine WpL.eqC ?_ | refine WpL.neC ?_ | refine WpD.neC ?_ | refine jC ?_ | refine jN ?_ | refine jS ?_ | refine jR ?_ | refine jT ?_ | refine jB ?_ | refine jX rfl ?_ | refine jY rfl ?_ | refine jK ?_ | refine jD ?_ | refine jE ?_)
      refine Br.yes (by simp [e1]) ?_
      repeat (first | refine WpL.eqC ?_ | refine WpL.neC ?_ | refine WpD.neC ?_ | refine jC ?_ | refine jN ?_ | refine jS ?_ | refine jR ?_ | refine jT ?_ | refine jB ?_ | refine jX rfl ?_ | refine jY rfl ?_ | refine jK ?_ | refine jD ?_ | refine jE ?_)
      refine Br.yes (by simp [e2]) ?_
      repeat (first | refine WpL.eqC ?_ | refine WpL.neC ?_ | refine WpD.neC ?_ | refine jC ?_ | refine jN ?_ | refine jS ?_ | refine jR ?_ | refine jT ?_ | refine jB ?_ | refine jX rfl ?_ | refine jY rfl ?_ | refine jK ?_ | refine jD ?_ | refine jE ?_)
      refine Br.yes (by simp [e3]) ?_
      repeat (first | refine WpL.eqC ?_ | refine WpL.neC ?_ | refine WpD.neC ?_ | refine jC ?_ | refine jN ?_ | refine jS ?_ | refine jR ?_ | refine jT ?_ | refine jB ?_ | refine jX rfl ?_ | refine jY rfl ?_ | refine jK ?_ | refine jD ?_ | refine jE ?_)
      exact EndV.val (by simp [e4]) hxb

set_option maxRecDepth 100000 in
theorem lifted (os : Os) (started : os.Started) (H : Type) (enc : TypeId × Value → H) :
    ReturnsInHanded {} Try.checked os 9 .any (Rows.fnSetUserSpec.pre6 enc Try.prog Try.f9 Rows.fnSetUserRow.domain false) (Rows.fnSetUserSpec.post enc Try.prog Try.f9 false true false false) := by
  refine returnsInHanded_of_change (C := Try.checked) own started (by kernel_rfl) Try.func9
    (ChangeSpec.witness6 (enc := enc) (C := Try.checked) false ⟨#[], #[.slice none 0 0], []⟩ 8 (by kernel_rfl) (by kernel_rfl) (by kernel_rfl) (by kernel_rfl)) ?_
  intro W base args ds gs before hval0 hW hcnd _
  have hval : ∀ (j : Nat) t v, Try.f9.params[j]? = some t → args[j]? = some v → Value.okWide Try.prog W .any base t v := hval0
  have hW' := hW
  have hltb : ∀ x ∈ before, x.block < W.heap.size := fun x hx => hW.lt x hx
  obtain ⟨p, q, hA0, hV, rfl, hfz, hnd⟩ := hW
  have hA : DataW.TrodAll enc Try.prog W 0 (fun _ => true) true Try.f9.params.toList args.toList ds p := hA0
  have hlt : ∀ x ∈ p, x.block < W.heap.size := fun x hx => hltb x (List.mem_append_left _ hx)
  have hAll := hA
  rw [Try.params9] at hA hval
  obtain ⟨v0, vs0, d0, ds0, p0, q0, hargs, rfl, rfl, h0, r0⟩ := trodAll_cons hA
  obtain ⟨rfl, rfl, rfl⟩ := trodAll_nil r0
  obtain rfl : args = #[v0] := by cases args; simp_all
  obtain ⟨rfl, rfl⟩ := trodVars_none hV
  clear hA0 hval0
  have hlt0 : ∀ x ∈ p0, x.block < W.heap.size := fun x hx => hlt x (by simp [hx])
  have w0 := open_bytes (hval 0 22 v0 rfl rfl) h0 hlt0
  simp only [List.append_nil] at hW' hltb hAll
  refine (walk v0 W w0).mono fun e W' ⟨he, hg⟩ => ?_
  subst he
  exact ⟨_, rfl, post_of_below (pa := _) (pv := []) hW' (fun _ _ _ => (trodAll_cons_mk (shut_bool Try.underlying4 _) trodAll_mk0))
    (fun sp hsp => trodAll_stays laidOut hg (by kernel_rfl) hAll hltb sp hsp) (fun _ _ => rfl) (by simp) hg (ok_one (by kernel_rfl) rfl (okWide_bool_mk Try.underlying4 _))⟩

theorem over : Rows.fnSetUserRow.holds Try.pinned (OpenSpec.ofChange Rows.fnSetUserSpec) :=
  OpenClaim.holds_of_wide 9 Try.f9 rfl rfl rfl rfl rfl rfl rfl ⟨rfl, rfl, rfl, rfl, rfl⟩ rfl rfl rfl rfl rfl (by kernel_rfl) Try.func9 (by kernel_rfl)
    (of_decide_eq_true (by kernel_rfl)) (by unfold Func.isWrapper; first | (rw [if_pos (by decide +kernel)]; kernel_rfl) | (rw [if_neg (by decide +kernel)]; exact ⟨rfl, rfl⟩))
    (fun os started H enc _ => lifted os started H enc)


/-- The statement. -/
theorem proved : Rows.FnSetUserSaid :=
  over
#print axioms proved
end Go.Proofs.Ytbiaamipfhgfeaa.fnSetUser
