/-
  Each has it, in ascending order, and there are as many as users that have it.
  Conditions: none.
-/
import Derived.Test.YtifnjinkddelmaaUsE
import Derived.Test.YtifnjinkddelmaaUsrV
import Derived.Test.YtifnjinkddelmaaUsrG
import Derived.Test.YtifnjinkddelmaaAlive
namespace Go.Proofs.Ytifnjinkddelmaa.fnGroupMembers
open Go.ChangeShapes Go.WideShapes Go.ChangeAt Go.RowKit
open Go.ChangeMaps (open_string)
set_option linter.unusedVariables false
open Vc
attribute [local irreducible] WpC WpL WpD WpE WpB CallV QCallV Made AppV Ld LdN Ix EndV I64 MutN Mut CellsAt
theorem mems_split (us : List Us) (g : Int) (k : Nat) : mems us g = mems (us.take k) g ++ mems (us.drop k) g := by
  rw [mems, mems, mems, ← List.map_append, ← List.filter_append, List.take_append_drop]
theorem mems_at {us : List Us} {g : Int} {k : Nat} {u : Us} (h : us[k]? = some u) (hg : hasG u.grp g = true) : (mems us g)[(mems (us.take k) g).length]? = some u.num := by
  obtain ⟨hlt, rfl⟩ := List.getElem?_eq_some_iff.1 h
  rw [mems_split us g k, List.getElem?_append_right (Nat.le_refl _), Nat.sub_self, List.drop_eq_getElem_cons hlt, mems, List.filter_cons, if_pos hg]
  rfl
theorem mems_le (us : List Us) (g : Int) (k : Nat) : (mems (us.take k) g).length ≤ us.length := by
  have h1 : (mems (us.take k) g).length ≤ (us.take k).length := by rw [mems, List.length_map]; exact List.length_filter_le _ _
  rw [List.length_take] at h1
  omega
set_option maxHeartbeats 1000000 in
theorem walk (v0 : Value) (w : World) (w0 : CodeAt w v0) :
    Calls Try.prog 12 #[v0] w fun e w' => e = .returned (.bool true) ∧ Below w.heap.size w w' := by
  obtain ⟨ad, len, cap, bs, rfl, hlc, hcm, hbl, hbd, hcell⟩ := w0
  have h0 : CodeAt w (.slice ad len cap) := ⟨ad, len, cap, bs, rfl, hlc, hcm, hbl, hbd, hcell⟩
  refine calls_of cx_ok Try.func12 Try.ntmps12 Try.results12 rfl rfl ?_
  repeat (first | refine jC ?_ | refine jN ?_ | refine jS ?_ | refine jR ?_ | refine jT ?_ | refine jB ?_ | refine jX rfl ?_ | refine jY rfl ?_ | refine jK ?_ | refine jD ?_ | refine jE ?_)
  refine Br.intro (fun h => ?_) (fun h => ?_)
  · repeat (first | refine jC ?_ | refine jN ?_ | refine jS ?_ | refine jR ?_ | refine jT ?_ | refine jB ?_ | refine jX rfl ?_ | refine jY rfl ?_ | refine jK ?_ | refine jD ?_ | refine jE ?_)
    exact EndV.val rfl (Ext.refl _)
  repeat (first | refine jC ?_ | refine jN ?_ | refine jS ?_ | refine jR ?_ | refine jT ?_ | refine jB ?_ | refine jX rfl ?_ | refine jY rfl ?_ | refine jK ?_ | refine jD ?_ | refine jE ?_)
  refine CallV.mem _ (fun w' hw _ => dGroupMembers_vc _ w' (h0.below hw)) (fun v wa wb hx1 hx2 _ ⟨uv, q, us, ev, hq, ⟨adu, capu, e⟩, hl, hsm, hU⟩ => ?_)
  subst ev e
  have hxb := hx1.trans hx2
  have hwf : ∀ u ∈ us, u.wf := fun u hu => (hsm u hu).wf
  obtain ⟨_, _, e, hlc', hcm', hat⟩ := hU.open
  cases e
  repeat (first | refine jC ?_ | refine jN ?_ | refine jS ?_ | refine jR ?_ | refine jT ?_ | refine jB ?_ | refine jX rfl ?_ | refine jY rfl ?_ | refine jK ?_ | refine jD ?_ | refine jE ?_)
  refine CallV.mem _ (fun w' hw _ => iGroupMembers_vc us _ (q : Int) w' (hU.ext hw) hwf (by omega)) (fun x1 wc wd hx3 hx4 _ ⟨ad1, n1, cap1, e1, hB1⟩ => ?_)
  subst e1
  repeat (first | refine jC ?_ | refine jN ?_ | refine jS ?_ | refine jR ?_ | refine jT ?_ | refine jB ?_ | refine jX rfl ?_ | refine jY rfl ?_ | refine jK ?_ | refine jD ?_ | refine jE ?_)
  refine CallV.mem _ (fun w' hw _ => sGroupMembers_vc us _ (q : Int) w' (hU.ext ((hx3.trans hx4).trans hw)) hwf (by omega)) (fun x2 we wf hx5 hx6 _ ⟨ad2, n2, cap2, e2, hB2⟩ => ?_)
  subst e2
  repeat (first | refine jC ?_ | refine jN ?_ | refine jS ?_ | refine jR ?_ | refine jT ?_ | refine jB ?_ | refine jX rfl ?_ | refine jY rfl ?_ | refine jK ?_ | refine jD ?_ | refine jE ?_)
  have hxf := (((hxb.trans hx3).trans hx4).trans hx5).trans hx6
  have hUf := ((((hU.ext hx3).ext hx4).ext hx5).ext hx6)
  have hX1 := (hB1.row1.ext hx5).ext hx6
  have hn1 : n1 = (members us (q : Int)).length := by have := hB1.len; simp at this; omega
  subst hn1
  refine CallV.val (fun w' hw _ => sameInts_vc _ _ _ _ w' (hX1.ext hw) (hB2.row1.ext hw) rfl) ?_
  repeat (first | refine jC ?_ | refine jN ?_ | refine jS ?_ | refine jR ?_ | refine jT ?_ | refine jB ?_ | refine jX rfl ?_ | refine jY rfl ?_ | refine jK ?_ | refine jD ?_ | refine jE ?_)
  refine WpC.loop (α := Nat) (fun x => ⟨[(0, .v (.slice ad len cap)), (3, .v (.slice adu us.length capu)), (4, .v (.int .i64 (q : Int))), (5, .v (.slice ad1 (members us (q : Int)).length cap1)), (6, .v (.int .i64 ((mems (us.take x) (q : Int)).length : Int))), (7, .v (.int .i64 (x : Int)))], [], wf⟩)
    (fun x => x ≤ us.length ∧ (x = 0 ∨ usersOk us = true)) (fun x => us.length - x) 0 ⟨Nat.zero_le _, .inl rfl⟩ ⟨⟨rfl, rfl, rfl, rfl, rfl, rfl, trivial⟩, trivial, trivial, Ext.refl _⟩ ?_
  rintro k ⟨hk, hn⟩
  dsimp only at hk hn ⊢
  have hml := mems_le us (q : Int) k
  repeat (first | refine jC ?_ | refine jN ?_ | refine jS ?_ | refine jR ?_ | refine jT ?_ | refine jB ?_ | refine jX rfl ?_ | refine jY rfl ?_ | refine jK ?_ | refine jD ?_ | refine jE ?_)
  refine Br.intro (fun h => ?_) (fun h => ?_)
  · have hlt : k < us.length := by have := of_decide_eq_true h; omega
    have hu : us[k]? = some us[k] := List.getElem?_eq_getElem hlt
    generalize us[k] = u at hu
    obtain ⟨b, o, rfl, hb, hc⟩ := hat (by omega)
    have hcf := fun i x hi => (((((hc i x hi).ext hx3).ext hx4).ext hx5).ext hx6)
    repeat (first | refine jC ?_ | refine jN ?_ | refine jS ?_ | refine jR ?_ | refine jT ?_ | refine jB ?_ | refine jX rfl ?_ | refine jY rfl ?_ | refine jK ?_ | refine jD ?_ | refine jE ?_)
    refine CallV.val (fun w' hw _ => iUsersValid_vc us _ w' (hUf.ext hw) hwf) ?_
    repeat (first | refine jC ?_ | refine jN ?_ | refine jS ?_ | refine jR ?_ | refine jT ?_ | refine jB ?_ | refine jX rfl ?_ | refine jY rfl ?_ | refine jK ?_ | refine jD ?_ | refine jE ?_)
    cases hok : usersOk us
    · have hk0 : k = 0 := hn.resolve_right (by rw [hok]; simp)
      subst hk0
      have e : members us (q : Int) = [] := by rw [members, hok]; rfl
      repeat (first | refine jC ?_ | refine jN ?_ | refine jS ?_ | refine jR ?_ | refine jT ?_ | refine jB ?_ | refine jX rfl ?_ | refine jY rfl ?_ | refine jK ?_ | refine jD ?_ | refine jE ?_)
      refine Br.yes (by rw [e]; rfl) ?_
      repeat (first | refine jC ?_ | refine jN ?_ | refine jS ?_ | refine jR ?_ | refine jT ?_ | refine jB ?_ | refine jX rfl ?_ | refine jY rfl ?_ | refine jK ?_ | refine jD ?_ | refine jE ?_)
      refine CallV.val (fun w' _ _ => (alive_any w').of_same) ?_
      repeat (first | refine jC ?_ | refine jN ?_ | refine jS ?_ | refine jR ?_ | refine jT ?_ | refine jB ?_ | refine jX rfl ?_ | refine jY rfl ?_ | refine jK ?_ | refine jD ?_ | refine jE ?_)
      exact EndV.val rfl hxf
    · have e : members us (q : Int) = mems us (q : Int) := by rw [members, hok]; rfl
      repeat (first | refine jC ?_ | refine jN ?_ | refine jS ?_ | refine jR ?_ | refine jT ?_ | refine jB ?_ | refine jX rfl ?_ | refine jY rfl ?_ | refine jK ?_ | refine jD ?_ | refine jE ?_)
      refine Ix.mk k rfl hlt ?_
      repeat (first | refine jC ?_ | refine jN ?_ | refine jS ?_ | refine jR ?_ | refine jT ?_ | refine jB ?_ | refine jX rfl ?_ | refine jY rfl ?_ | refine jK ?_ | refine jD ?_ | refine jE ?_)
      refine Ld.mk ((hcf k u hu).out 2 _ rfl) ?_
      repeat (first | refine jC ?_ | refine jN ?_ | refine jS ?_ | refine jR ?_ | refine jT ?_ | refine jB ?_ | refine jX rfl ?_ | refine jY rfl ?_ | refine jK ?_ | refine jD ?_ | refine jE ?_)
      refine CallV.val (fun w' hw _ => (iHasGroup_any u.grp (q : Int) w').of_same) ?_
      repeat (first | refine jC ?_ | refine jN ?_ | refine jS ?_ | refine jR ?_ | refine jT ?_ | refine jB ?_ | refine jX rfl ?_ | refine jY rfl ?_ | refine jK ?_ | refine jD ?_ | refine jE ?_)
      have hsn := mems_snoc hu (q : Int)
      cases hg : hasG u.grp (q : Int)
      · rw [hg] at hsn
        simp only [Bool.false_eq_true, if_false] at hsn
        repeat (first | refine jC ?_ | refine jN ?_ | refine jS ?_ | refine jR ?_ | refine jT ?_ | refine jB ?_ | refine jX rfl ?_ | refine jY rfl ?_ | refine jK ?_ | refine jD ?_ | refine jE ?_)
        refine ⟨I64.mk (by omega), ?_⟩
        repeat (first | refine jC ?_ | refine jN ?_ | refine jS ?_ | refine jR ?_ | refine jT ?_ | refine jB ?_ | refine jX rfl ?_ | refine jY rfl ?_ | refine jK ?_ | refine jD ?_ | refine jE ?_)
        exact ⟨k + 1, ⟨hlt, by first | exact .inr hok | exact .inr rfl⟩, by show us.length - (k + 1) < us.length - k; omega, ⟨rfl, rfl, rfl, rfl, by rw [hsn]; rfl, rfl, trivial⟩, trivial, trivial, Ext.refl _⟩
      · rw [hg] at hsn
        simp only [if_true] at hsn
        have hat1 := mems_at hu hg
        rw [← e] at hat1
        have hlt1 := (List.getElem?_eq_some_iff.1 hat1).1
        have hx0 := hX1
        obtain ⟨_, _, e3, _, _, hx1at⟩ := hx0
        simp only [Value.slice.injEq] at e3
        obtain ⟨rfl, _, rfl⟩ := e3
        obtain ⟨b1, o1, rfl, hc1⟩ := hx1at (by rw [List.length_map]; omega)
        repeat (first | refine jC ?_ | refine jN ?_ | refine jS ?_ | refine jR ?_ | refine jT ?_ | refine jB ?_ | refine jX rfl ?_ | refine jY rfl ?_ | refine jK ?_ | refine jD ?_ | refine jE ?_)
        refine WpC.draw (by kernel_rfl) ?_
        repeat (first | refine jC ?_ | refine jN ?_ | refine jS ?_ | refine jR ?_ | refine jT ?_ | refine jB ?_ | refine jX rfl ?_ | refine jY rfl ?_ | refine jK ?_ | refine jD ?_ | refine jE ?_)
        refine Br.no (by simp; omega) ?_
        repeat (first | refine jC ?_ | refine jN ?_ | refine jS ?_ | refine jR ?_ | refine jT ?_ | refine jB ?_ | refine jX rfl ?_ | refine jY rfl ?_ | refine jK ?_ | refine jD ?_ | refine jE ?_)
        refine Ix.mk (mems (us.take k) (q : Int)).length rfl (by omega) ?_
        repeat (first | refine jC ?_ | refine jN ?_ | refine jS ?_ | refine jR ?_ | refine jT ?_ | refine jB ?_ | refine jX rfl ?_ | refine jY rfl ?_ | refine jK ?_ | refine jD ?_ | refine jE ?_)
        refine Ld.mk (hc1.out _ (.int .i64 u.num) (by rw [List.getElem?_map, hat1]; rfl)) ?_
        repeat (first | refine jC ?_ | refine jN ?_ | refine jS ?_ | refine jR ?_ | refine jT ?_ | refine jB ?_ | refine jX rfl ?_ | refine jY rfl ?_ | refine jK ?_ | refine jD ?_ | refine jE ?_)
        refine Ix.mk k rfl hlt ?_
        repeat (first | refine jC ?_ | refine jN ?_ | refine jS ?_ | refine jR ?_ | refine jT ?_ | refine jB ?_ | refine jX rfl ?_ | refine jY rfl ?_ | refine jK ?_ | refine jD ?_ | refine jE ?_)
        refine Ld.mk ((hcf k u hu).out 1 _ rfl) ?_
        repeat (first | refine jC ?_ | refine jN ?_ | refine jS ?_ | refine jR ?_ | refine jT ?_ | refine jB ?_ | refine jX rfl ?_ | refine jY rfl ?_ | refine jK ?_ | refine jD ?_ | refine jE ?_)
        refine Br.no (by simp) ?_
        repeat (first | refine jC ?_ | refine jN ?_ | refine jS ?_ | refine jR ?_ | refine jT ?_ | refine jB ?_ | refine jX rfl ?_ | refine jY rfl ?_ | refine jK ?_ | refine jD ?_ | refine jE ?_)
        refine ⟨I64.mk (by omega), ?_⟩
        repeat (first | refine jC ?_ | refine jN ?_ | refine jS ?_ | refine jR ?_ | refine jT ?_ | refine jB ?_ | refine jX rfl ?_ | refine jY rfl ?_ | refine jK ?_ | refine jD ?_ | refine jE ?_)
        refine ⟨I64.mk (by omega), ?_⟩
        repeat (first | refine jC ?_ | refine jN ?_ | refine jS ?_ | refine jR ?_ | refine jT ?_ | refine jB ?_ | refine jX rfl ?_ | refine jY rfl ?_ | refine jK ?_ | refine jD ?_ | refine jE ?_)
        exact ⟨k + 1, ⟨hlt, by first | exact .inr hok | exact .inr rfl⟩, by show us.length - (k + 1) < us.length - k; omega, ⟨rfl, rfl, rfl, rfl, by show some _ = some _; rw [hsn, List.length_append]; rfl, rfl, trivial⟩, trivial, trivial, Ext.refl _⟩
  · have hke : k = us.length := by have := of_decide_eq_false h; omega
    have e : (mems (us.take k) (q : Int)).length = (members us (q : Int)).length := by
      rw [members]
      split
      · rw [hke, List.take_length]
      · rename_i hno
        rcases hn with h0 | h0
        · subst h0; rfl
        · exact absurd h0 hno
    repeat (first | refine jC ?_ | refine jN ?_ | refine jS ?_ | refine jR ?_ | refine jT ?_ | refine jB ?_ | refine jX rfl ?_ | refine jY rfl ?_ | refine jK ?_ | refine jD ?_ | refine jE ?_)
    refine Br.yes (by simp [e]) ?_
    repeat (first | refine jC ?_ | refine jN ?_ | refine jS ?_ | refine jR ?_ | refine jT ?_ | refine jB ?_ | refine jX rfl ?_ | refine jY rfl ?_ | refine jK ?_ | refine jD ?_ | refine jE ?_)
    refine CallV.val (fun w' _ _ => (alive_any w').of_same) ?_
    repeat (first | refine jC ?_ | refine jN ?_ | refine jS ?_ | refine jR ?_ | refine jT ?_ | refine jB ?_ | refine jX rfl ?_ | refine jY rfl ?_ | refine jK ?_ | refine jD ?_ | refine jE ?_)
    exact EndV.val rfl hxf

set_option maxRecDepth 100000 in
theorem lifted (os : Os) (started : os.Started) (H : Type) (enc : TypeId × Value → H) :
    ReturnsInHanded {} Try.checked os 12 .any (Rows.fnGroupMembersSpec.pre6 enc Try.prog Try.f12 Rows.fnGroupMembersRow.domain false) (Rows.fnGroupMembersSpec.post enc Try.prog Try.f12 false true false false) := by
  refine returnsInHanded_of_change (C := Try.checked) own started (by kernel_rfl) Try.func12
    (ChangeSpec.witness6 (enc := enc) (C := Try.checked) false ⟨#[], #[.slice none 0 0], []⟩ 8 (by kernel_rfl) (by kernel_rfl) (by kernel_rfl) (by kernel_rfl)) ?_
  intro W base args ds gs before hval0 hW hcnd _
  have hval : ∀ (j : Nat) t v, Try.f12.params[j]? = some t → args[j]? = some v → Value.okWide Try.prog W .any base t v := hval0
  have hW' := hW
  have hltb : ∀ x ∈ before, x.block < W.heap.size := fun x hx => hW.lt x hx
  obtain ⟨p, q, hA0, hV, rfl, hfz, hnd⟩ := hW
  have hA : DataW.TrodAll enc Try.prog W 0 (fun _ => true) true Try.f12.params.toList args.toList ds p := hA0
  have hlt : ∀ x ∈ p, x.block < W.heap.size := fun x hx => hltb x (List.mem_append_left _ hx)
  have hAll := hA
  rw [Try.params12] at hA hval
  obtain ⟨v0, vs0, d0, ds0, p0, q0, hargs, rfl, rfl, h0, r0⟩ := trodAll_cons hA
  obtain ⟨rfl, rfl, rfl⟩ := trodAll_nil r0
  obtain rfl : args = #[v0] := by cases args; simp_all
  obtain ⟨rfl, rfl⟩ := trodVars_none hV
  clear hA0 hval0
  have hlt0 : ∀ x ∈ p0, x.block < W.heap.size := fun x hx => hlt x (by simp [hx])
  have w0 := open_bytes (hval 0 33 v0 rfl rfl) h0 hlt0
  simp only [List.append_nil] at hW' hltb hAll
  refine (walk v0 W w0).mono fun e W' ⟨he, hg⟩ => ?_
  subst he
  exact ⟨_, rfl, post_of_below (pa := _) (pv := []) hW' (fun _ _ _ => (trodAll_cons_mk (shut_bool Try.underlying4 _) trodAll_mk0))
    (fun sp hsp => trodAll_stays laidOut hg (by kernel_rfl) hAll hltb sp hsp) (fun _ _ => rfl) (by simp) hg (ok_one (by kernel_rfl) rfl (okWide_bool_mk Try.underlying4 _))⟩

theorem over : Rows.fnGroupMembersRow.holds Try.pinned (OpenSpec.ofChange Rows.fnGroupMembersSpec) :=
  OpenClaim.holds_of_wide 12 Try.f12 rfl rfl rfl rfl rfl rfl rfl ⟨rfl, rfl, rfl, rfl, rfl⟩ rfl rfl rfl rfl rfl (by kernel_rfl) Try.func12 (by kernel_rfl)
    (of_decide_eq_true (by kernel_rfl)) (by unfold Func.isWrapper; first | (rw [if_pos (by decide +kernel)]; kernel_rfl) | (rw [if_neg (by decide +kernel)]; exact ⟨rfl, rfl⟩))
    (fun os started H enc _ => lifted os started H enc)


/-- The statement. -/
theorem proved : Rows.FnGroupMembersSaid :=
  over
#print axioms proved
end Go.Proofs.Ytifnjinkddelmaa.fnGroupMembers
