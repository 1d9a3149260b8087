/-
  The draws of a credential and a user, for ActAs and RunAs.
  Conditions: none.
-/
import Derived.Test.YtbiaamipfhgfeaaRdV
namespace Go.Proofs.Ytbiaamipfhgfeaa
open Go.RowKit Vc
set_option linter.unusedVariables false
attribute [local irreducible] WpC WpL WpD WpE WpB CallV QCallV Made AppV Ld LdN Ix EndV I64 MutN Mut CellsAt

theorem dActAs_vc (v : Value) (w : World) (h : CodeAt w v) : Calls Try.prog 37 #[v] w fun e w' => ∃ (c : Cr) (x : Int), e = .returned (.tuple #[c.v, .int .i64 x]) ∧ c.small ∧ (-1 ≤ x ∧ x ≤ 100) ∧ Below w.heap.size w w' := by
  refine calls_of cx_ok Try.func37 Try.ntmps37 Try.results37 rfl rfl ?_
  repeat (first | refine jC ?_ | refine jN ?_ | refine jS ?_ | refine jR ?_ | refine jT ?_ | refine jB ?_ | refine jX rfl ?_ | refine jY rfl ?_ | refine jK ?_ | refine jD ?_ | refine jE ?_)
  intro b2 hb2
  repeat (first | refine jC ?_ | refine jN ?_)
  refine WpC.plain (fun w1 hx1 hO => ?_)
  have hq2 : w1.heap[b2]? = some (.cells #[.int .i64 0, .int .i64 0, .int .i64 0, .int .i64 0] 34 (0, 0)) := hO.1 0 _ rfl
  have hl2 : b2 < w1.heap.size := hO.lt (i := 0) rfl
  repeat (first | refine jC ?_ | refine jN ?_ | refine jS ?_ | refine jR ?_ | refine jT ?_ | refine jB ?_ | refine jX rfl ?_ | refine jY rfl ?_ | refine jK ?_ | refine jD ?_ | refine jE ?_)
  refine CallV.mem (fun v _ _ => ∃ (c : Cr) (x : Int), v = .tuple #[c.v, .int .i64 x] ∧ c.small ∧ (-1 ≤ x ∧ x ≤ 100)) (fun w' hw _ => (dSetUser_vc _ w' (h.below (hx1.trans hw))).mono fun e w1 ⟨c, x, h1, h2, h3, h4⟩ => ⟨_, h1, ⟨c, x, rfl, h2, h3⟩, h4⟩) (fun v wa wb hxa hxb _ ⟨c, x, e, hsm, hx⟩ => ?_)
  subst e
  repeat (first | refine jC ?_ | refine jN ?_ | refine jS ?_ | refine jR ?_ | refine jT ?_ | refine jB ?_ | refine jX rfl ?_ | refine jY rfl ?_ | refine jK ?_ | refine jD ?_ | refine jE ?_)
  have hq := ((hxa.trans hxb).block b2 hl2).trans hq2
  have hm := MutN.of_block (o := 0) (n := 4) hq (by simp)
  refine ⟨hm, trivial, rfl, by simp [Value.oneCell'], ?_⟩
  repeat (first | refine jC ?_ | refine jN ?_ | refine jS ?_ | refine jR ?_ | refine jT ?_ | refine jB ?_ | refine jX rfl ?_ | refine jY rfl ?_ | refine jK ?_ | refine jD ?_ | refine jE ?_)
  refine LdN.mk (CellsAt.setL_in (l := [.int .i64 c.real, .int .i64 c.acts, .int .i64 c.saved, .int .i64 c.groups]) hm) rfl ?_
  repeat (first | refine jC ?_ | refine jN ?_ | refine jS ?_ | refine jR ?_ | refine jT ?_ | refine jB ?_ | refine jX rfl ?_ | refine jY rfl ?_ | refine jK ?_ | refine jD ?_ | refine jE ?_)
  exact EndV.mk fun w' hw' => ⟨c, x, rfl, hsm, hx, ((hx1.trans hxa).trans hxb).trans' ((below_setL (Below.refl _ _) hb2 _ _).trans (hw'.mono (by rw [setL_size]; exact ((hx1.trans hxa).trans hxb).size)))⟩
theorem dRunAs_vc (v : Value) (w : World) (h : CodeAt w v) : Calls Try.prog 44 #[v] w fun e w' => ∃ (c : Cr) (x : Int) (b : Bool), e = .returned (.tuple #[c.v, .int .i64 x, .bool b]) ∧ c.small ∧ (-1 ≤ x ∧ x ≤ 100) ∧ Below w.heap.size w w' := by
  obtain ⟨ad, len, cap, bs, rfl, hlc, hcm, hbl, hbd, hcell⟩ := h
  have h : CodeAt w (.slice ad len cap) := ⟨ad, len, cap, bs, rfl, hlc, hcm, hbl, hbd, hcell⟩
  refine calls_of cx_ok Try.func44 Try.ntmps44 Try.results44 rfl rfl ?_
  repeat (first | refine jC ?_ | refine jN ?_ | refine jS ?_ | refine jR ?_ | refine jT ?_ | refine jB ?_ | refine jX rfl ?_ | refine jY rfl ?_ | refine jK ?_ | refine jD ?_ | refine jE ?_)
  intro b2 hb2
  repeat (first | refine jC ?_ | refine jN ?_ | refine jS ?_ | refine jR ?_ | refine jT ?_ | refine jB ?_ | refine jX rfl ?_ | refine jY rfl ?_ | refine jK ?_ | refine jD ?_ | refine jE ?_)
  refine CallV.mem (fun v _ _ => ∃ (c : Cr) (x : Int), v = .tuple #[c.v, .int .i64 x] ∧ c.small ∧ (-1 ≤ x ∧ x ≤ 100)) (fun w' hw _ => (dSetUser_vc _ w' (h.below hw)).mono fun e w1 ⟨c, x, h1, h2, h3, h4⟩ => ⟨_, h1, ⟨c, x, rfl, h2, h3⟩, h4⟩) (fun v wa wb hxa hxb _ ⟨c, x, e, hsm, hx⟩ => ?_)
  subst e
  repeat (first | refine jC ?_ | refine jN ?_ | refine jS ?_ | refine jR ?_ | refine jT ?_ | refine jB ?_ | refine jX rfl ?_ | refine jY rfl ?_ | refine jK ?_ | refine jD ?_ | refine jE ?_)
  intro b5 hb5
  repeat (first | refine jC ?_ | refine jN ?_ | refine jS ?_ | refine jR ?_ | refine jT ?_ | refine jB ?_ | refine jX rfl ?_ | refine jY rfl ?_ | refine jK ?_ | refine jD ?_ | refine jE ?_)
  refine ⟨by assumption, rfl, by simp, by simp [Value.oneCell'], ?_⟩
  repeat (first | refine jC ?_ | refine jN ?_)
  refine WpC.plain (fun w1 hx1 hO => ?_)
  have hq2 : w1.heap[b2]? = some (.cells #[.int .i64 0, .int .i64 0, .int .i64 0, .int .i64 0] 34 (0, 0)) := hO.1 0 _ rfl
  have hq5 : w1.heap[b5]? = some (.cells #[.int .i64 c.real, .int .i64 c.acts, .int .i64 c.saved, .int .i64 c.groups] 34 (0, 0)) := hO.1 1 _ rfl
  have hc5 : CellsAt w1 b5 0 [.int .i64 c.real, .int .i64 c.acts, .int .i64 c.saved, .int .i64 c.groups] := CellsAt.of_block (cs := [.int .i64 c.real, .int .i64 c.acts, .int .i64 c.saved, .int .i64 c.groups]) hq5 fun i v hi => by rw [Nat.zero_add]; exact hi
  have hm := MutN.of_block (o := 0) (n := 4) hq2 (by simp)
  repeat (first | refine jC ?_ | refine jN ?_ | refine jS ?_ | refine jR ?_ | refine jT ?_ | refine jB ?_ | refine jX rfl ?_ | refine jY rfl ?_ | refine jK ?_ | refine jD ?_ | refine jE ?_)
  refine LdN.mk hc5 rfl ?_
  repeat (first | refine jC ?_ | refine jN ?_ | refine jS ?_ | refine jR ?_ | refine jT ?_ | refine jB ?_ | refine jX rfl ?_ | refine jY rfl ?_ | refine jK ?_ | refine jD ?_ | refine jE ?_)
  refine ⟨by omega, ?_⟩
  repeat (first | refine jC ?_ | refine jN ?_ | refine jS ?_ | refine jR ?_ | refine jT ?_ | refine jB ?_ | refine jX rfl ?_ | refine jY rfl ?_ | refine jK ?_ | refine jD ?_ | refine jE ?_)
  refine ⟨hm, trivial, rfl, by simp [Value.oneCell'], ?_⟩
  repeat (first | refine jC ?_ | refine jN ?_ | refine jS ?_ | refine jR ?_ | refine jT ?_ | refine jB ?_ | refine jX rfl ?_ | refine jY rfl ?_ | refine jK ?_ | refine jD ?_ | refine jE ?_)
  refine LdN.mk (CellsAt.setL_in (l := [.int .i64 c.real, .int .i64 c.acts, .int .i64 c.saved, .int .i64 c.groups]) hm) rfl ?_
  repeat (first | refine jC ?_ | refine jN ?_ | refine jS ?_ | refine jR ?_ | refine jT ?_ | refine jB ?_ | refine jX rfl ?_ | refine jY rfl ?_ | refine jK ?_ | refine jD ?_ | refine jE ?_)
  have hx1w := (hxa.trans hxb).trans hx1
  exact EndV.mk fun w' hw' => ⟨c, x, _, rfl, hsm, hx, hx1w.trans' ((below_setL (Below.refl _ _) hb2 _ _).trans (hw'.mono (by rw [setL_size]; exact hx1w.size)))⟩
end Go.Proofs.Ytbiaamipfhgfeaa
