/-
  The draws of users, with names and groups.
  Conditions: none.
-/
import Derived.Test.YtifnjinkddelmaaUsD
namespace Go.Proofs.Ytifnjinkddelmaa
open Go.RowKit Vc
set_option linter.unusedVariables false
set_option maxHeartbeats 1000000
attribute [local irreducible] WpC WpL WpD WpE WpB CallV QCallV Made AppV Ld LdN Ix EndV I64 MutN Mut CellsAt

theorem CallV.pkU {P : Program} {f : FuncId} {args : Array Value} {H : List OE} {A : World} {K : Value → List OE → World → Prop} {g p c : Nat} (hne : OwnNe H g) (h : ∀ w, Ext A w → OwnAt H w → Calls P f args w (PkU c g p w))
    (k : ∀ (ad : Option Addr) (cap : Nat) (us : List Us) (p' : Nat) w w', Ext A w → us.length ≤ 5 → (∀ u ∈ us, u.small) → Buf w.heap.size w' ad us.length cap 3 (ucells us) → p' ≤ p + c → Rd w' g p' → w.grownBy w' (some g) → K (.slice ad us.length cap) H w') : CallV P f args H A K :=
  CallV.grow g hne (fun v w w' => ∃ (ad : Option Addr) (cap : Nat) (us : List Us) (p' : Nat), v = .slice ad us.length cap ∧ us.length ≤ 5 ∧ (∀ u ∈ us, u.small) ∧ Buf w.heap.size w' ad us.length cap 3 (ucells us) ∧ p' ≤ p + c ∧ Rd w' g p')
    (fun w h1 h2 => (h w h1 h2).mono fun e w' ⟨ad, cap, us, p', e1, h3, h4, h5, h6, h7, h8⟩ => ⟨_, e1, ⟨ad, cap, us, p', rfl, h3, h4, h5, h6, h7⟩, h8⟩)
    (fun v w w' h1 _ ⟨ad, cap, us, p', e1, h3, h4, h5, h6, h7⟩ h8 => e1 ▸ k ad cap us p' w w' h1 h3 h4 h5 h6 h7 h8)
/-- Users that are drawn. -/
def DrewU (w w' : World) (v : Value) (us : List Us) : Prop := (∃ ad cap, v = .slice ad us.length cap) ∧ us.length ≤ 5 ∧ (∀ u ∈ us, u.small) ∧ Uss w' v us

theorem dUsersValid_vc (v : Value) (w : World) (h : CodeAt w v) : Calls Try.prog 31 #[v] w fun e w' => ∃ v', e = .returned v' ∧ (∃ us, DrewU w w' v' us) ∧ Vc.Ext w w' := by
  refine calls_of cx_ok Try.func31 Try.ntmps31 Try.results31 rfl rfl ?_
  repeat (first | refine jC ?_ | refine jN ?_ | refine jS ?_ | refine jR ?_ | refine jT ?_ | refine jB ?_ | refine jX rfl ?_ | refine jY rfl ?_ | refine jK ?_ | refine jD ?_ | refine jE ?_)
  refine CallV.open_ (fun w' g _ hO hg => OwnNe.far hO hg) (fun w' hw _ => open_any v w' (h.below hw)) (fun g wa w1 hxa hne hg hR hx1 => ?_)
  repeat (first | refine jC ?_ | refine jN ?_ | refine jS ?_ | refine jR ?_ | refine jT ?_ | refine jB ?_ | refine jX rfl ?_ | refine jY rfl ?_ | refine jK ?_ | refine jD ?_ | refine jE ?_)
  refine CallV.pkU (g := g) hne (fun w' hw _ => users_vc g 0 2 w' (hR.below hw) (by omega) (by omega) (by omega)) (fun ad cap us p wb w2 hx2 hl hsm hB hp hR2 hg2 => ?_)
  repeat (first | refine jC ?_ | refine jN ?_ | refine jS ?_ | refine jR ?_ | refine jT ?_ | refine jB ?_ | refine jX rfl ?_ | refine jY rfl ?_ | refine jK ?_ | refine jD ?_ | refine jE ?_)
  have hx12 := (hxa.trans hx1).trans hx2
  have hx : Vc.Ext w w2 := hx12.trans' (grown_below hg2 hx12.size (by have := hxa.size; omega))
  exact EndV.mk fun w' hw' => ⟨_, rfl, ⟨us, ⟨ad, cap, rfl⟩, hl, hsm, hB.uss.ext hw'⟩, hx.trans hw'⟩
theorem four {w : World} {b : Nat} {S : Nat → Prop} (h : Fr w S b [.string ⟨#[97]⟩, .string ⟨#[98]⟩, .string ⟨#[99]⟩, .string ⟨#[122]⟩]) {j : Nat} (hj : (j : Int) < 4) : ∃ s : ByteArray, s.size = 1 ∧ w.cell? ⟨b, 0 + j, none⟩ = some (.string s) := by
  have h' : j = 0 ∨ j = 1 ∨ j = 2 ∨ j = 3 := by omega
  rcases h' with rfl | rfl | rfl | rfl
  all_goals exact ⟨_, rfl, h.cells.out _ _ rfl⟩
theorem dUserNamed_vc (v : Value) (w : World) (h : CodeAt w v) : Calls Try.prog 32 #[v] w fun e w' => ∃ v', e = .returned v' ∧ (∃ u s us, v' = .tuple #[u, .string s] ∧ s.size = 1 ∧ DrewU w w' u us) ∧ Vc.Ext w w' := by
  refine calls_of cx_ok Try.func32 Try.ntmps32 Try.results32 rfl rfl ?_
  repeat (first | refine jC ?_ | refine jN ?_ | refine jS ?_ | refine jR ?_ | refine jT ?_ | refine jB ?_ | refine jX rfl ?_ | refine jY rfl ?_ | refine jK ?_ | refine jD ?_ | refine jE ?_)
  refine CallV.open_ (fun w' g _ hO hg => OwnNe.far hO hg) (fun w' hw _ => open_any v w' (h.below hw)) (fun g wa w1 hxa hne hg hR hx1 => ?_)
  repeat (first | refine jC ?_ | refine jN ?_ | refine jS ?_ | refine jR ?_ | refine jT ?_ | refine jB ?_ | refine jX rfl ?_ | refine jY rfl ?_ | refine jK ?_ | refine jD ?_ | refine jE ?_)
  refine CallV.pkU (g := g) hne (fun w' hw _ => users_vc g 0 9 w' (hR.below hw) (by omega) (by omega) (by omega)) (fun ad cap us p wb w2 hx2 hl hsm hB hp hR2 hg2 => ?_)
  repeat (first | refine jC ?_ | refine jN ?_ | refine jS ?_ | refine jR ?_ | refine jT ?_ | refine jB ?_ | refine jX rfl ?_ | refine jY rfl ?_ | refine jK ?_ | refine jD ?_ | refine jE ?_)
  have hx12 := (hxa.trans hx1).trans hx2
  have hgb : g < wb.heap.size := by have := hR.lt; have := hx2.size; omega
  have hx : Vc.Ext w w2 := hx12.trans' (grown_below hg2 hx12.size (by have := hxa.size; omega))
  have hR := hR2
  have hG := grown_self w2 g
  refine WpC.drawD (fun w' => w2.grownBy w' (some g)) (fun w' hw => grown_ext hG hw) (.st 0 (.st 2 (.ef 1 (.ef 3 (.st 4 (.st 6 (.ef 5 (.st 7 .done) .done))) .done) (.ef 3 (.st 6 (.ef 1 (.st 4 (.ef 5 (.st 7 .done) .done)) .done)) .done)))) [(0, .mv), (1, .ef), (2, .mv), (3, .ef), (5, .ef), (6, .mv), (7, .mv)] (by kernel_rfl) ?_
  refine uM ?_
  refine uM ?_
  refine WpE.ef2 (by exact rfl) (by exact rfl) ?_ ?_
  · refine Made.mk fun gm wm hxm hm1 hm2 hm3 _ => ?_
    have hC := Fr.of_block (S := fun j => j = g) (cs := [.string ⟨#[97]⟩, .string ⟨#[98]⟩, .string ⟨#[99]⟩, .string ⟨#[122]⟩]) hm3 hm2 (by have := hR.lt; omega)
    replace hR := hR.below hxm
    replace hB := hB.ext hxm
    replace hG := grown_ext hG hxm
    clear hxm hm3 hm1
    refine ⟨Keep.mk fun w' hw => grown_ext hG hw, ?_⟩
    refine uE ?_
    refine CallV.pick (g := g) trivial (by omega) (fun w' hw _ => pick_any g _ 4 w' (hR.below hw) (by omega) (by omega)) (fun q wq wr hxq hq hR' hg' => ?_)
    have hX := ExcP.grown (S := fun j => j = g) (ext_grown hxq hg') rfl
    replace hB := hB.exc hX (by intro j h1 h2; omega)
    try replace hC := hC.exc hX
    replace hR := hR'
    replace hG := grown_trans hG (ext_grown hxq hg')
    clear hX hR' hg' hxq
    refine ⟨Keep.mk fun w' hw => grown_ext hG hw, ?_⟩
    refine WpE.rdD (by exact rfl) (by exact rfl) ?_
    refine ⟨_, fun w' hw => Ix.mk q rfl (by omega) rfl, ?_⟩
    refine uM ?_
    refine uE ?_
    obtain ⟨s, hs, hsc⟩ := four hC hq
    refine Ld.mk hsc ?_
    refine ⟨Keep.mk fun w' hw => grown_ext hG hw, ?_⟩
    refine uM ?_
    refine uD ?_
    repeat (first | refine jC ?_ | refine jN ?_ | refine jS ?_ | refine jR ?_ | refine jT ?_ | refine jB ?_ | refine jX rfl ?_ | refine jY rfl ?_ | refine jK ?_ | refine jD ?_ | refine jE ?_)
    exact EndV.mk fun w' hw' => ⟨_, rfl, ⟨_, s, us, rfl, hs, ⟨ad, cap, rfl⟩, hl, hsm, hB.uss.ext hw'⟩, (hx.trans' (grown_below hG hx.size (by have := hxa.size; omega))).trans hw'⟩
  · refine uE ?_
    refine CallV.pick (g := g) trivial (by omega) (fun w' hw _ => pick_any g _ 4 w' (hR.below hw) (by omega) (by omega)) (fun q wq wr hxq hq hR' hg' => ?_)
    have hX := ExcP.grown (S := fun j => j = g) (ext_grown hxq hg') rfl
    replace hB := hB.exc hX (by intro j h1 h2; omega)
    try replace hC := hC.exc hX
    replace hR := hR'
    replace hG := grown_trans hG (ext_grown hxq hg')
    clear hX hR' hg' hxq
    refine ⟨Keep.mk fun w' hw => grown_ext hG hw, ?_⟩
    refine uM ?_
    refine uE ?_
    refine Made.mk fun gm wm hxm hm1 hm2 hm3 _ => ?_
    have hC := Fr.of_block (S := fun j => j = g) (cs := [.string ⟨#[97]⟩, .string ⟨#[98]⟩, .string ⟨#[99]⟩, .string ⟨#[122]⟩]) hm3 hm2 (by have := hR.lt; omega)
    replace hR := hR.below hxm
    replace hB := hB.ext hxm
    replace hG := grown_ext hG hxm
    clear hxm hm3 hm1
    refine ⟨Keep.mk fun w' hw => grown_ext hG hw, ?_⟩
    refine WpE.rdD (by exact rfl) (by exact rfl) ?_
    refine ⟨_, fun w' hw => Ix.mk q rfl (by omega) rfl, ?_⟩
    refine uE ?_
    obtain ⟨s, hs, hsc⟩ := four hC hq
    refine Ld.mk hsc ?_
    refine ⟨Keep.mk fun w' hw => grown_ext hG hw, ?_⟩
    refine uM ?_
    refine uD ?_
    repeat (first | refine jC ?_ | refine jN ?_ | refine jS ?_ | refine jR ?_ | refine jT ?_ | refine jB ?_ | refine jX rfl ?_ | refine jY rfl ?_ | refine jK ?_ | refine jD ?_ | refine jE ?_)
    exact EndV.mk fun w' hw' => ⟨_, rfl, ⟨_, s, us, rfl, hs, ⟨ad, cap, rfl⟩, hl, hsm, hB.uss.ext hw'⟩, (hx.trans' (grown_below hG hx.size (by have := hxa.size; omega))).trans hw'⟩
theorem dGroupMembers_vc (v : Value) (w : World) (h : CodeAt w v) : Calls Try.prog 35 #[v] w fun e w' => ∃ v', e = .returned v' ∧ (∃ (u : Value) (q : Nat) (us : List Us), v' = .tuple #[u, .int .i64 (q : Int)] ∧ q < 9 ∧ DrewU w w' u us) ∧ Vc.Ext w w' := by
  refine calls_of cx_ok Try.func35 Try.ntmps35 Try.results35 rfl rfl ?_
  repeat (first | refine jC ?_ | refine jN ?_ | refine jS ?_ | refine jR ?_ | refine jT ?_ | refine jB ?_ | refine jX rfl ?_ | refine jY rfl ?_ | refine jK ?_ | refine jD ?_ | refine jE ?_)
  refine CallV.open_ (fun w' g _ hO hg => OwnNe.far hO hg) (fun w' hw _ => open_any v w' (h.below hw)) (fun g wa w1 hxa hne hg hR hx1 => ?_)
  repeat (first | refine jC ?_ | refine jN ?_ | refine jS ?_ | refine jR ?_ | refine jT ?_ | refine jB ?_ | refine jX rfl ?_ | refine jY rfl ?_ | refine jK ?_ | refine jD ?_ | refine jE ?_)
  refine CallV.pkU (g := g) hne (fun w' hw _ => users_vc g 0 9 w' (hR.below hw) (by omega) (by omega) (by omega)) (fun ad cap us p wb w2 hx2 hl hsm hB hp hR2 hg2 => ?_)
  repeat (first | refine jC ?_ | refine jN ?_ | refine jS ?_ | refine jR ?_ | refine jT ?_ | refine jB ?_ | refine jX rfl ?_ | refine jY rfl ?_ | refine jK ?_ | refine jD ?_ | refine jE ?_)
  have hx12 := (hxa.trans hx1).trans hx2
  have hgb : g < wb.heap.size := by have := hR.lt; have := hx2.size; omega
  have hx : Vc.Ext w w2 := hx12.trans' (grown_below hg2 hx12.size (by have := hxa.size; omega))
  refine CallV.pick (g := g) trivial (by omega) (fun w' hw _ => pick_any g _ 9 w' (hR2.below hw) (by omega) (by omega)) (fun q wq wr hxq hq hR' hg' => ?_)
  have hB := hB.exc (ExcP.grown (S := fun j => j = g) (ext_grown hxq hg') rfl) (by intro j h1 h2; omega)
  have hx' := hx.trans' (grown_below (ext_grown hxq hg') hx.size (by have := hxa.size; omega))
  repeat (first | refine jC ?_ | refine jN ?_ | refine jS ?_ | refine jR ?_ | refine jT ?_ | refine jB ?_ | refine jX rfl ?_ | refine jY rfl ?_ | refine jK ?_ | refine jD ?_ | refine jE ?_)
  exact EndV.mk fun w' hw' => ⟨_, rfl, ⟨_, q, us, rfl, by omega, ⟨ad, cap, rfl⟩, hl, hsm, hB.uss.ext hw'⟩, hx'.trans hw'⟩
end Go.Proofs.Ytifnjinkddelmaa
