/-
  With the first one twice users are not valid; without it valid ones are valid.
  Conditions: none.
-/
import Derived.Test.YtifnjinkddelmaaUsE
import Derived.Test.YtifnjinkddelmaaUsrV
import Derived.Test.YtifnjinkddelmaaAlive
namespace Go.Proofs.Ytifnjinkddelmaa.fnUsersValid
open Go.ChangeShapes Go.WideShapes Go.ChangeAt Go.RowKit
open Go.ChangeMaps (open_string)
set_option linter.unusedVariables false
open Vc
attribute [local irreducible] WpC WpL WpD WpE WpB CallV QCallV Made AppV Ld LdN Ix EndV I64 MutN Mut CellsAt
theorem plc_tail {us : List Us} {u : Us} {nm : ByteArray} (h : plc (u :: us) nm < 0) : plc us nm < 0 := by
  rcases plc_cases us nm with ⟨k, x, hk, hx, hs, _⟩ | ⟨hk, _⟩
  · have := plc_ge (us := u :: us) (i := k + 1) (k := us.length + 1) (by have := (List.getElem?_eq_some_iff.1 hx).1; omega) (by simpa using hx) hs
    rw [List.take_of_length_le (by simp)] at this
    omega
  · omega
theorem ok_tail {u : Us} {r : List Us} (h : usersOk (u :: r) = true) : usersOk r = true := by
  obtain ⟨h1, h2⟩ := usersOk_iff.1 h
  refine usersOk_iff.2 ⟨fun k hk => ?_, by simp at h2; omega⟩
  have h3 := h1 (k + 1) (by simp; omega)
  have hu : r[k]? = some r[k] := List.getElem?_eq_getElem hk
  have hu' : (u :: r)[k + 1]? = some r[k] := hu
  simp only [uAt, hu', Bool.and_eq_true, List.take_succ_cons] at h3
  obtain ⟨⟨⟨⟨a1, a2⟩, a3⟩, a4⟩, a5⟩ := h3
  refine uAt_ok hu a1 a2 a3 (plc_tail (of_decide_eq_true a5)) (fun p hk0 hp => ?_)
  have hp' : (u :: r)[k]? = some p := by
    obtain ⟨j, rfl⟩ : ∃ j, k = j + 1 := ⟨k - 1, by omega⟩
    simpa using hp
  rw [hp'] at a4
  simpa using a4
theorem ok_twice (u : Us) (r : List Us) : usersOk (u :: u :: r) = false :=
  usersOk_bad (k := 1) (by simp) (uAt_ord (u := u) (p := u) rfl (by omega) rfl (by omega))
theorem Uss.drop1 {w : World} {ad : Option Addr} {us : List Us} {u : Us} {n cap : Nat} (h : Uss w (.slice ad n cap) (u :: us)) : Uss w (.slice (if cap = 1 then ad else ad.map (·.add (1 * 3))) (n - 1) (cap - 1)) us := by
  obtain ⟨ad', cap', e, hlc, hcm, hat⟩ := h
  cases e
  rw [List.length_map, List.length_cons] at hlc hat ⊢
  refine ⟨_, _, by rw [List.length_map]; rfl, by rw [List.length_map]; omega, by omega, fun h0 => ?_⟩
  rw [List.length_map] at h0
  obtain ⟨b, o, rfl, hb, hc⟩ := hat (by omega)
  rw [if_neg (by omega)]
  refine ⟨b, o + 3, rfl, hb, fun i l hi => ?_⟩
  have := hc (i + 1) l (by simpa using hi)
  rwa [show o + (i + 1) * 3 = o + 3 + i * 3 by omega] at this
theorem ucells_one (us : List Us) : ∀ c, c ∈ ucells us → c.oneCell' = true := by
  intro c hc
  obtain ⟨u, _, hu⟩ := List.mem_flatMap.1 hc
  simp only [Us.cells, List.mem_cons, List.not_mem_nil, or_false] at hu
  rcases hu with rfl | rfl | rfl <;> rfl
theorem flatU {w : World} {b : Nat} {us : List Us} : ∀ {o : Nat}, (∀ i u, us[i]? = some u → CellsAt w b (o + i * 3) u.cells) → CellsAt w b o (ucells us) := by
  induction us with
  | nil => intro o _; exact CellsAt.nil
  | cons u r ih =>
    intro o h
    have h1 : CellsAt w b (o + 3) (ucells r) := ih fun i x hi => by
      have := h (i + 1) x (by simpa using hi)
      rwa [show o + (i + 1) * 3 = o + 3 + i * 3 by omega] at this
    have h0 := h 0 u rfl
    rw [Nat.zero_mul, Nat.add_zero] at h0
    exact CellsAt.append (l := u.cells) h0 h1
set_option maxHeartbeats 1000000 in
theorem walk (v0 : Value) (w : World) (w0 : CodeAt w v0) :
    Calls Try.prog 9 #[v0] w fun e w' => e = .returned (.bool true) ∧ Below w.heap.size w w' := by
  obtain ⟨ad, len, cap, bs, rfl, hlc, hcm, hbl, hbd, hcell⟩ := w0
  have h0 : CodeAt w (.slice ad len cap) := ⟨ad, len, cap, bs, rfl, hlc, hcm, hbl, hbd, hcell⟩
  refine calls_of cx_ok Try.func9 Try.ntmps9 Try.results9 rfl rfl ?_
  repeat (first | refine jC ?_ | refine jN ?_ | refine jS ?_ | refine jR ?_ | refine jT ?_ | refine jB ?_ | refine jX rfl ?_ | refine jY rfl ?_ | refine jK ?_ | refine jD ?_ | refine jE ?_)
  refine Br.intro (fun h => ?_) (fun h => ?_)
  · repeat (first | refine jC ?_ | refine jN ?_ | refine jS ?_ | refine jR ?_ | refine jT ?_ | refine jB ?_ | refine jX rfl ?_ | refine jY rfl ?_ | refine jK ?_ | refine jD ?_ | refine jE ?_)
    exact EndV.val rfl (Ext.refl _)
  repeat (first | refine jC ?_ | refine jN ?_ | refine jS ?_ | refine jR ?_ | refine jT ?_ | refine jB ?_ | refine jX rfl ?_ | refine jY rfl ?_ | refine jK ?_ | refine jD ?_ | refine jE ?_)
  refine CallV.mem _ (fun w' hw _ => dUsersValid_vc _ w' (h0.below hw)) (fun v wa wb hx1 hx2 _ ⟨us, ⟨adu, capu, e⟩, hl, hsm, hU⟩ => ?_)
  subst e
  have hxb := hx1.trans hx2
  have hwf : ∀ u ∈ us, u.wf := fun u hu => (hsm u hu).wf
  repeat (first | refine jC ?_ | refine jN ?_ | refine jS ?_ | refine jR ?_ | refine jT ?_ | refine jB ?_ | refine jX rfl ?_ | refine jY rfl ?_ | refine jK ?_ | refine jD ?_ | refine jE ?_)
  refine CallV.val (fun w' hw _ => iUsersValid_vc us _ w' (hU.ext hw) hwf) ?_
  repeat (first | refine jC ?_ | refine jN ?_ | refine jS ?_ | refine jR ?_ | refine jT ?_ | refine jB ?_ | refine jX rfl ?_ | refine jY rfl ?_ | refine jK ?_ | refine jD ?_ | refine jE ?_)
  refine CallV.val (fun w' hw _ => sUsersValid_vc us _ w' (hU.ext hw) hwf) ?_
  repeat (first | refine jC ?_ | refine jN ?_ | refine jS ?_ | refine jR ?_ | refine jT ?_ | refine jB ?_ | refine jX rfl ?_ | refine jY rfl ?_ | refine jK ?_ | refine jD ?_ | refine jE ?_)
  refine Br.no (by simp) ?_
  repeat (first | refine jC ?_ | refine jN ?_ | refine jS ?_ | refine jR ?_ | refine jT ?_ | refine jB ?_ | refine jX rfl ?_ | refine jY rfl ?_ | refine jK ?_ | refine jD ?_ | refine jE ?_)
  cases hok : usersOk us
  · repeat (first | refine jC ?_ | refine jN ?_ | refine jS ?_ | refine jR ?_ | refine jT ?_ | refine jB ?_ | refine jX rfl ?_ | refine jY rfl ?_ | refine jK ?_ | refine jD ?_ | refine jE ?_)
    refine CallV.val (fun w' _ _ => (alive_any w').of_same) ?_
    repeat (first | refine jC ?_ | refine jN ?_ | refine jS ?_ | refine jR ?_ | refine jT ?_ | refine jB ?_ | refine jX rfl ?_ | refine jY rfl ?_ | refine jK ?_ | refine jD ?_ | refine jE ?_)
    exact EndV.val rfl hxb
  · repeat (first | refine jC ?_ | refine jN ?_ | refine jS ?_ | refine jR ?_ | refine jT ?_ | refine jB ?_ | refine jX rfl ?_ | refine jY rfl ?_ | refine jK ?_ | refine jD ?_ | refine jE ?_)
    cases us with
    | nil =>
      repeat (first | refine jC ?_ | refine jN ?_ | refine jS ?_ | refine jR ?_ | refine jT ?_ | refine jB ?_ | refine jX rfl ?_ | refine jY rfl ?_ | refine jK ?_ | refine jD ?_ | refine jE ?_)
      refine CallV.val (fun w' _ _ => (alive_any w').of_same) ?_
      repeat (first | refine jC ?_ | refine jN ?_ | refine jS ?_ | refine jR ?_ | refine jT ?_ | refine jB ?_ | refine jX rfl ?_ | refine jY rfl ?_ | refine jK ?_ | refine jD ?_ | refine jE ?_)
      exact EndV.val rfl hxb
    | cons u r =>
      repeat (first | refine jC ?_ | refine jN ?_ | refine jS ?_ | refine jR ?_ | refine jT ?_ | refine jB ?_ | refine jX rfl ?_ | refine jY rfl ?_ | refine jK ?_ | refine jD ?_ | refine jE ?_)
      obtain ⟨_, _, e, hlc, hcm, hat⟩ := hU.open
      cases e
      obtain ⟨b, o, rfl, hb, hc⟩ := hat (by simp)
      refine ⟨1, rfl, by simp, hlc, ?_⟩
      repeat (first | refine jC ?_ | refine jN ?_ | refine jS ?_ | refine jR ?_ | refine jT ?_ | refine jB ?_ | refine jX rfl ?_ | refine jY rfl ?_ | refine jK ?_ | refine jD ?_ | refine jE ?_)
      refine CallV.val (fun w' hw _ => iUsersValid_vc r _ w' (Uss.drop1 (hU.ext hw)) (fun x hx => hwf x (List.mem_cons_of_mem _ hx))) ?_
      rw [ok_tail hok]
      repeat (first | refine jC ?_ | refine jN ?_ | refine jS ?_ | refine jR ?_ | refine jT ?_ | refine jB ?_ | refine jX rfl ?_ | refine jY rfl ?_ | refine jK ?_ | refine jD ?_ | refine jE ?_)
      refine Ix.mk 0 rfl (by simp) ?_
      repeat (first | refine jC ?_ | refine jN ?_ | refine jS ?_ | refine jR ?_ | refine jT ?_ | refine jB ?_ | refine jX rfl ?_ | refine jY rfl ?_ | refine jK ?_ | refine jD ?_ | refine jE ?_)
      refine LdN.mk (hc 0 u rfl) rfl ?_
      repeat (first | refine jC ?_ | refine jN ?_ | refine jS ?_ | refine jR ?_ | refine jT ?_ | refine jB ?_ | refine jX rfl ?_ | refine jY rfl ?_ | refine jK ?_ | refine jD ?_ | refine jE ?_)
      refine Made.mk fun g w1 hx3 hg1 hg2 hg3 _ => ?_
      have hB1 : Buf wb.heap.size w1 (some ⟨g, 0, none⟩) 1 1 3 (ucells [u]) := ⟨Nat.le_refl _, by omega, rfl, (fun e => by cases e), fun p e => by cases e; exact ⟨g, rfl, hg1, hg2, MutN.of_block hg3 (by simp), CellsAt.of_block hg3 fun i v hi => by rw [Nat.zero_add]; exact hi⟩⟩
      repeat (first | refine jC ?_ | refine jN ?_ | refine jS ?_ | refine jR ?_ | refine jT ?_ | refine jB ?_ | refine jX rfl ?_ | refine jY rfl ?_ | refine jK ?_ | refine jD ?_ | refine jE ?_)
      refine AppV.buf hB1 ((flatU hc).ext hx3) (ucells_length _) (ucells_one _) (fun p _ => trivial) (by omega) (by omega) rfl hx3.size (fun ad' cap' A' hB' hbl hoth => ?_)
      have hu2 : Uss A' (.slice ad' (u :: u :: r).length cap') (u :: u :: r) := Buf.uss (B := wb.heap.size) (by
        have e : ucells [u] ++ ucells (u :: r) = ucells (u :: u :: r) := by simp [ucells]
        rw [e] at hB'
        rw [show (u :: u :: r).length = 1 + (u :: r).length by simp; omega]
        exact hB')
      rw [show 1 + (u :: r).length = (u :: u :: r).length by simp; omega]
      repeat (first | refine jC ?_ | refine jN ?_ | refine jS ?_ | refine jR ?_ | refine jT ?_ | refine jB ?_ | refine jX rfl ?_ | refine jY rfl ?_ | refine jK ?_ | refine jD ?_ | refine jE ?_)
      refine CallV.val (fun w' hw _ => iUsersValid_vc (u :: u :: r) _ w' (hu2.ext hw) (fun x hx => by
        rcases List.mem_cons.1 hx with rfl | hx
        · exact hwf _ (List.mem_cons_self ..)
        · exact hwf _ hx)) ?_
      rw [ok_twice u r]
      repeat (first | refine jC ?_ | refine jN ?_ | refine jS ?_ | refine jR ?_ | refine jT ?_ | refine jB ?_ | refine jX rfl ?_ | refine jY rfl ?_ | refine jK ?_ | refine jD ?_ | refine jE ?_)
      exact EndV.val rfl (hxb.trans (hx3.trans' hbl))

set_option maxRecDepth 100000 in
theorem lifted (os : Os) (started : os.Started) (H : Type) (enc : TypeId × Value → H) :
    ReturnsInHanded {} Try.checked os 9 .any (Rows.fnUsersValidSpec.pre6 enc Try.prog Try.f9 Rows.fnUsersValidRow.domain false) (Rows.fnUsersValidSpec.post enc Try.prog Try.f9 false true false false) := by
  refine returnsInHanded_of_change (C := Try.checked) own started (by kernel_rfl) Try.func9
    (ChangeSpec.witness6 (enc := enc) (C := Try.checked) false ⟨#[], #[.slice none 0 0], []⟩ 8 (by kernel_rfl) (by kernel_rfl) (by kernel_rfl) (by kernel_rfl)) ?_
  intro W base args ds gs before hval0 hW hcnd _
  have hval : ∀ (j : Nat) t v, Try.f9.params[j]? = some t → args[j]? = some v → Value.okWide Try.prog W .any base t v := hval0
  have hW' := hW
  have hltb : ∀ x ∈ before, x.block < W.heap.size := fun x hx => hW.lt x hx
  obtain ⟨p, q, hA0, hV, rfl, hfz, hnd⟩ := hW
  have hA : DataW.TrodAll enc Try.prog W 0 (fun _ => true) true Try.f9.params.toList args.toList ds p := hA0
  have hlt : ∀ x ∈ p, x.block < W.heap.size := fun x hx => hltb x (List.mem_append_left _ hx)
  have hAll := hA
  rw [Try.params9] at hA hval
  obtain ⟨v0, vs0, d0, ds0, p0, q0, hargs, rfl, rfl, h0, r0⟩ := trodAll_cons hA
  obtain ⟨rfl, rfl, rfl⟩ := trodAll_nil r0
  obtain rfl : args = #[v0] := by cases args; simp_all
  obtain ⟨rfl, rfl⟩ := trodVars_none hV
  clear hA0 hval0
  have hlt0 : ∀ x ∈ p0, x.block < W.heap.size := fun x hx => hlt x (by simp [hx])
  have w0 := open_bytes (hval 0 33 v0 rfl rfl) h0 hlt0
  simp only [List.append_nil] at hW' hltb hAll
  refine (walk v0 W w0).mono fun e W' ⟨he, hg⟩ => ?_
  subst he
  exact ⟨_, rfl, post_of_below (pa := _) (pv := []) hW' (fun _ _ _ => (trodAll_cons_mk (shut_bool Try.underlying4 _) trodAll_mk0))
    (fun sp hsp => trodAll_stays laidOut hg (by kernel_rfl) hAll hltb sp hsp) (fun _ _ => rfl) (by simp) hg (ok_one (by kernel_rfl) rfl (okWide_bool_mk Try.underlying4 _))⟩

theorem over : Rows.fnUsersValidRow.holds Try.pinned (OpenSpec.ofChange Rows.fnUsersValidSpec) :=
  OpenClaim.holds_of_wide 9 Try.f9 rfl rfl rfl rfl rfl rfl rfl ⟨rfl, rfl, rfl, rfl, rfl⟩ rfl rfl rfl rfl rfl (by kernel_rfl) Try.func9 (by kernel_rfl)
    (of_decide_eq_true (by kernel_rfl)) (by unfold Func.isWrapper; first | (rw [if_pos (by decide +kernel)]; kernel_rfl) | (rw [if_neg (by decide +kernel)]; exact ⟨rfl, rfl⟩))
    (fun os started H enc _ => lifted os started H enc)


/-- The statement. -/
theorem proved : Rows.FnUsersValidSaid :=
  over
#print axioms proved
end Go.Proofs.Ytifnjinkddelmaa.fnUsersValid
