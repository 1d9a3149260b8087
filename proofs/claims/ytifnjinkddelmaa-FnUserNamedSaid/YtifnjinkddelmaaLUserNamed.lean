/-
  The user with the number has the name.
  Conditions: none.
-/
import Derived.Test.YtifnjinkddelmaaUsE
import Derived.Test.YtifnjinkddelmaaUsrV
import Derived.Test.YtifnjinkddelmaaUsrG
import Derived.Test.YtifnjinkddelmaaAlive
namespace Go.Proofs.Ytifnjinkddelmaa.fnUserNamed
open Go.ChangeShapes Go.WideShapes Go.ChangeAt Go.RowKit
open Go.ChangeMaps (open_string)
set_option linter.unusedVariables false
open Vc
attribute [local irreducible] WpC WpL WpD WpE WpB CallV QCallV Made AppV Ld LdN Ix EndV I64 MutN Mut CellsAt
set_option maxHeartbeats 1000000 in
theorem walk (v0 : Value) (w : World) (w0 : CodeAt w v0) :
    Calls Try.prog 10 #[v0] w fun e w' => e = .returned (.bool true) ∧ Below w.heap.size w w' := by
  obtain ⟨ad, len, cap, bs, rfl, hlc, hcm, hbl, hbd, hcell⟩ := w0
  have h0 : CodeAt w (.slice ad len cap) := ⟨ad, len, cap, bs, rfl, hlc, hcm, hbl, hbd, hcell⟩
  refine calls_of cx_ok Try.func10 Try.ntmps10 Try.results10 rfl rfl ?_
  repeat (first | refine jC ?_ | refine jN ?_ | refine jS ?_ | refine jR ?_ | refine jT ?_ | refine jB ?_ | refine jX rfl ?_ | refine jY rfl ?_ | refine jK ?_ | refine jD ?_ | refine jE ?_)
  refine Br.intro (fun h => ?_) (fun h => ?_)
  · repeat (first | refine jC ?_ | refine jN ?_ | refine jS ?_ | refine jR ?_ | refine jT ?_ | refine jB ?_ | refine jX rfl ?_ | refine jY rfl ?_ | refine jK ?_ | refine jD ?_ | refine jE ?_)
    exact EndV.val rfl (Ext.refl _)
  repeat (first | refine jC ?_ | refine jN ?_ | refine jS ?_ | refine jR ?_ | refine jT ?_ | refine jB ?_ | refine jX rfl ?_ | refine jY rfl ?_ | refine jK ?_ | refine jD ?_ | refine jE ?_)
  refine CallV.mem _ (fun w' hw _ => dUserNamed_vc _ w' (h0.below hw)) (fun v wa wb hx1 hx2 _ ⟨uv, s, us, ev, hs, ⟨adu, capu, e⟩, hl, hsm, hU⟩ => ?_)
  subst ev e
  have hxb := hx1.trans hx2
  have hwf : ∀ u ∈ us, u.wf := fun u hu => (hsm u hu).wf
  obtain ⟨_, _, e, hlc', hcm', hat⟩ := hU.open
  cases e
  repeat (first | refine jC ?_ | refine jN ?_ | refine jS ?_ | refine jR ?_ | refine jT ?_ | refine jB ?_ | refine jX rfl ?_ | refine jY rfl ?_ | refine jK ?_ | refine jD ?_ | refine jE ?_)
  refine CallV.val (fun w' hw _ => iUserNamed_vc us _ s w' (hU.ext hw) hwf) ?_
  repeat (first | refine jC ?_ | refine jN ?_ | refine jS ?_ | refine jR ?_ | refine jT ?_ | refine jB ?_ | refine jX rfl ?_ | refine jY rfl ?_ | refine jK ?_ | refine jD ?_ | refine jE ?_)
  refine CallV.val (fun w' hw _ => sUserNamed_vc us _ s w' (hU.ext hw) hwf) ?_
  repeat (first | refine jC ?_ | refine jN ?_ | refine jS ?_ | refine jR ?_ | refine jT ?_ | refine jB ?_ | refine jX rfl ?_ | refine jY rfl ?_ | refine jK ?_ | refine jD ?_ | refine jE ?_)
  refine Br.no (by simp) ?_
  repeat (first | refine jC ?_ | refine jN ?_ | refine jS ?_ | refine jR ?_ | refine jT ?_ | refine jB ?_ | refine jX rfl ?_ | refine jY rfl ?_ | refine jK ?_ | refine jD ?_ | refine jE ?_)
  refine WpC.loop (α := Nat) (fun x => ⟨[(0, .v (.slice ad len cap)), (3, .v (.slice adu us.length capu)), (4, .v (.string s)), (5, .v (.int .i64 (userNo us s))), (6, .v (.int .i64 (x : Int)))], [], wb⟩)
    (fun x => x ≤ us.length ∧ ∀ (j : Nat) (u : Us), j < x → us[j]? = some u → same u.name s = false) (fun x => us.length - x) 0 ⟨Nat.zero_le _, fun j u h => absurd h (by omega)⟩ ⟨⟨rfl, rfl, rfl, rfl, rfl, trivial⟩, trivial, trivial, Ext.refl _⟩ ?_
  rintro k ⟨hk, hn⟩
  dsimp only at hk hn ⊢
  repeat (first | refine jC ?_ | refine jN ?_ | refine jS ?_ | refine jR ?_ | refine jT ?_ | refine jB ?_ | refine jX rfl ?_ | refine jY rfl ?_ | refine jK ?_ | refine jD ?_ | refine jE ?_)
  refine Br.intro (fun h => ?_) (fun h => ?_)
  · have hlt : k < us.length := by have := of_decide_eq_true h; omega
    have hu : us[k]? = some us[k] := List.getElem?_eq_getElem hlt
    generalize us[k] = u at hu
    obtain ⟨b, o, rfl, hb, hc⟩ := hat (by omega)
    repeat (first | refine jC ?_ | refine jN ?_ | refine jS ?_ | refine jR ?_ | refine jT ?_ | refine jB ?_ | refine jX rfl ?_ | refine jY rfl ?_ | refine jK ?_ | refine jD ?_ | refine jE ?_)
    refine CallV.val (fun w' hw _ => iUsersValid_vc us _ w' (hU.ext hw) hwf) ?_
    repeat (first | refine jC ?_ | refine jN ?_ | refine jS ?_ | refine jR ?_ | refine jT ?_ | refine jB ?_ | refine jX rfl ?_ | refine jY rfl ?_ | refine jK ?_ | refine jD ?_ | refine jE ?_)
    cases hok : usersOk us
    · have e : userNo us s = -1 := by rw [userNo, hok]; rfl
      repeat (first | refine jC ?_ | refine jN ?_ | refine jS ?_ | refine jR ?_ | refine jT ?_ | refine jB ?_ | refine jX rfl ?_ | refine jY rfl ?_ | refine jK ?_ | refine jD ?_ | refine jE ?_)
      refine Br.yes (by simp [e]) ?_
      refine CallV.val (fun w' _ _ => (alive_any w').of_same) ?_
      repeat (first | refine jC ?_ | refine jN ?_ | refine jS ?_ | refine jR ?_ | refine jT ?_ | refine jB ?_ | refine jX rfl ?_ | refine jY rfl ?_ | refine jK ?_ | refine jD ?_ | refine jE ?_)
      exact EndV.val rfl hxb
    · repeat (first | refine jC ?_ | refine jN ?_ | refine jS ?_ | refine jR ?_ | refine jT ?_ | refine jB ?_ | refine jX rfl ?_ | refine jY rfl ?_ | refine jK ?_ | refine jD ?_ | refine jE ?_)
      refine Ix.mk k rfl hlt ?_
      repeat (first | refine jC ?_ | refine jN ?_ | refine jS ?_ | refine jR ?_ | refine jT ?_ | refine jB ?_ | refine jX rfl ?_ | refine jY rfl ?_ | refine jK ?_ | refine jD ?_ | refine jE ?_)
      refine Ld.mk ((hc k u hu).out 0 _ rfl) ?_
      repeat (first | refine jC ?_ | refine jN ?_ | refine jS ?_ | refine jR ?_ | refine jT ?_ | refine jB ?_ | refine jX rfl ?_ | refine jY rfl ?_ | refine jK ?_ | refine jD ?_ | refine jE ?_)
      cases hs2 : same u.name s
      · refine Br.no hs2 ?_
        repeat (first | refine jC ?_ | refine jN ?_ | refine jS ?_ | refine jR ?_ | refine jT ?_ | refine jB ?_ | refine jX rfl ?_ | refine jY rfl ?_ | refine jK ?_ | refine jD ?_ | refine jE ?_)
        refine ⟨I64.mk (by omega), ?_⟩
        repeat (first | refine jC ?_ | refine jN ?_ | refine jS ?_ | refine jR ?_ | refine jT ?_ | refine jB ?_ | refine jX rfl ?_ | refine jY rfl ?_ | refine jK ?_ | refine jD ?_ | refine jE ?_)
        exact ⟨k + 1, ⟨hlt, fun j x hj hx => by
          by_cases e : j = k
          · subst e; rw [hu] at hx; cases hx; exact hs2
          · exact hn j x (by omega) hx⟩, by show us.length - (k + 1) < us.length - k; omega, ⟨rfl, rfl, rfl, rfl, rfl, trivial⟩, trivial, trivial, Ext.refl _⟩
      · refine Br.yes hs2 ?_
        have e : userNo us s = u.num := by rw [userNo, if_pos hok, find_hit hu hs2 (fun j x hj hx => hn j x hj hx)]
        repeat (first | refine jC ?_ | refine jN ?_ | refine jS ?_ | refine jR ?_ | refine jT ?_ | refine jB ?_ | refine jX rfl ?_ | refine jY rfl ?_ | refine jK ?_ | refine jD ?_ | refine jE ?_)
        refine Ix.mk k rfl hlt ?_
        repeat (first | refine jC ?_ | refine jN ?_ | refine jS ?_ | refine jR ?_ | refine jT ?_ | refine jB ?_ | refine jX rfl ?_ | refine jY rfl ?_ | refine jK ?_ | refine jD ?_ | refine jE ?_)
        refine Ld.mk ((hc k u hu).out 1 _ rfl) ?_
        repeat (first | refine jC ?_ | refine jN ?_ | refine jS ?_ | refine jR ?_ | refine jT ?_ | refine jB ?_ | refine jX rfl ?_ | refine jY rfl ?_ | refine jK ?_ | refine jD ?_ | refine jE ?_)
        exact EndV.val (by simp [e]) hxb
  · have hke : k = us.length := by have := of_decide_eq_false h; omega
    have e : userNo us s = -1 := by
      rw [userNo]
      split
      · rw [find_none (fun j x hx => hn j x (by rw [hke]; exact (List.getElem?_eq_some_iff.1 hx).1) hx)]
      · rfl
    repeat (first | refine jC ?_ | refine jN ?_ | refine jS ?_ | refine jR ?_ | refine jT ?_ | refine jB ?_ | refine jX rfl ?_ | refine jY rfl ?_ | refine jK ?_ | refine jD ?_ | refine jE ?_)
    refine Br.yes (by simp [e]) ?_
    refine CallV.val (fun w' _ _ => (alive_any w').of_same) ?_
    repeat (first | refine jC ?_ | refine jN ?_ | refine jS ?_ | refine jR ?_ | refine jT ?_ | refine jB ?_ | refine jX rfl ?_ | refine jY rfl ?_ | refine jK ?_ | refine jD ?_ | refine jE ?_)
    exact EndV.val rfl hxb

set_option maxRecDepth 100000 in
theorem lifted (os : Os) (started : os.Started) (H : Type) (enc : TypeId × Value → H) :
    ReturnsInHanded {} Try.checked os 10 .any (Rows.fnUserNamedSpec.pre6 enc Try.prog Try.f10 Rows.fnUserNamedRow.domain false) (Rows.fnUserNamedSpec.post enc Try.prog Try.f10 false true false false) := by
  refine returnsInHanded_of_change (C := Try.checked) own started (by kernel_rfl) Try.func10
    (ChangeSpec.witness6 (enc := enc) (C := Try.checked) false ⟨#[], #[.slice none 0 0], []⟩ 8 (by kernel_rfl) (by kernel_rfl) (by kernel_rfl) (by kernel_rfl)) ?_
  intro W base args ds gs before hval0 hW hcnd _
  have hval : ∀ (j : Nat) t v, Try.f10.params[j]? = some t → args[j]? = some v → Value.okWide Try.prog W .any base t v := hval0
  have hW' := hW
  have hltb : ∀ x ∈ before, x.block < W.heap.size := fun x hx => hW.lt x hx
  obtain ⟨p, q, hA0, hV, rfl, hfz, hnd⟩ := hW
  have hA : DataW.TrodAll enc Try.prog W 0 (fun _ => true) true Try.f10.params.toList args.toList ds p := hA0
  have hlt : ∀ x ∈ p, x.block < W.heap.size := fun x hx => hltb x (List.mem_append_left _ hx)
  have hAll := hA
  rw [Try.params10] at hA hval
  obtain ⟨v0, vs0, d0, ds0, p0, q0, hargs, rfl, rfl, h0, r0⟩ := trodAll_cons hA
  obtain ⟨rfl, rfl, rfl⟩ := trodAll_nil r0
  obtain rfl : args = #[v0] := by cases args; simp_all
  obtain ⟨rfl, rfl⟩ := trodVars_none hV
  clear hA0 hval0
  have hlt0 : ∀ x ∈ p0, x.block < W.heap.size := fun x hx => hlt x (by simp [hx])
  have w0 := open_bytes (hval 0 33 v0 rfl rfl) h0 hlt0
  simp only [List.append_nil] at hW' hltb hAll
  refine (walk v0 W w0).mono fun e W' ⟨he, hg⟩ => ?_
  subst he
  exact ⟨_, rfl, post_of_below (pa := _) (pv := []) hW' (fun _ _ _ => (trodAll_cons_mk (shut_bool Try.underlying4 _) trodAll_mk0))
    (fun sp hsp => trodAll_stays laidOut hg (by kernel_rfl) hAll hltb sp hsp) (fun _ _ => rfl) (by simp) hg (ok_one (by kernel_rfl) rfl (okWide_bool_mk Try.underlying4 _))⟩

theorem over : Rows.fnUserNamedRow.holds Try.pinned (OpenSpec.ofChange Rows.fnUserNamedSpec) :=
  OpenClaim.holds_of_wide 10 Try.f10 rfl rfl rfl rfl rfl rfl rfl ⟨rfl, rfl, rfl, rfl, rfl⟩ rfl rfl rfl rfl rfl (by kernel_rfl) Try.func10 (by kernel_rfl)
    (of_decide_eq_true (by kernel_rfl)) (by unfold Func.isWrapper; first | (rw [if_pos (by decide +kernel)]; kernel_rfl) | (rw [if_neg (by decide +kernel)]; exact ⟨rfl, rfl⟩))
    (fun os started H enc _ => lifted os started H enc)


/-- The statement. -/
theorem proved : Rows.FnUserNamedSaid :=
  over
#print axioms proved
end Go.Proofs.Ytifnjinkddelmaa.fnUserNamed
