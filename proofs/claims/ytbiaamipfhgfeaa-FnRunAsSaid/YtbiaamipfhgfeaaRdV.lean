/-
  The reader of the draws, in the calculus of conditions.
  Conditions: none.
-/
import Derived.Test.YtbiaamipfhgfeaaDraws
import Derived.Test.YtbiaamipfhgfeaaTabE
import Derived.Test.YtbiaamipfhgfeaaVcP
import Derived.Test.YtbiaamipfhgfeaaExcP
namespace Go.Proofs.Ytbiaamipfhgfeaa
open Go.RowKit Vc
set_option linter.unusedVariables false
set_option maxHeartbeats 400000
attribute [local irreducible] WpC WpL WpD WpE WpB CallV QCallV Made AppV Ld LdN Ix EndV I64 MutN Mut CellsAt

section
variable {P : Program} {f : FuncId} {args : Array Value} {H : List OE} {A : World} {K : Value → List OE → World → Prop} {g p : Nat}
theorem OwnAt.grown {w w' : World} (h : OwnAt H w) (hg : w.grownBy w' (some g)) (hne : OwnNe H g) : OwnAt H w' :=
  ⟨fun i o hi => (hg.block o.blk (h.lt hi) (fun e => hne.out hi (Option.some.inj e))).trans (h.1 i o hi), h.2⟩
/-- A call that turns block g alone. -/
theorem CallV.grow (g : Nat) (hne : OwnNe H g) (Φ : Value → World → World → Prop)
    (h : ∀ w, Ext A w → OwnAt H w → Calls P f args w (fun e w' => ∃ v, e = .returned v ∧ Φ v w w' ∧ w.grownBy w' (some g)))
    (k : ∀ v w w', Ext A w → OwnAt H w → Φ v w w' → w.grownBy w' (some g) → K v H w') : CallV P f args H A K := by
  unfold CallV
  exact ⟨fun v w w' => Φ v w w' ∧ w.grownBy w' (some g), h, fun v w w' h1 h2 ⟨hp, hg⟩ => ⟨w', H, ⟨[], by simp⟩, Ext.refl _, OwnAt.grown h2 hg hne, k v w w' h1 h2 hp hg⟩⟩
theorem CallV.pk {c : Nat} {lo hi : Int} (hne : OwnNe H g) (h : ∀ w, Ext A w → OwnAt H w → Calls P f args w (Pk c lo hi g p w))
    (k : ∀ (x : Int) (p' : Nat) w w', Ext A w → lo ≤ x → x ≤ hi → p' ≤ p + c → Rd w' g p' → w.grownBy w' (some g) → K (.int .i64 x) H w') : CallV P f args H A K :=
  CallV.grow g hne (fun v w w' => ∃ (x : Int) (p' : Nat), v = .int .i64 x ∧ lo ≤ x ∧ x ≤ hi ∧ p' ≤ p + c ∧ Rd w' g p')
    (fun w h1 h2 => (h w h1 h2).mono fun e w' ⟨x, p', e1, h3, h4, h5, h6, h7⟩ => ⟨_, e1, ⟨x, p', rfl, h3, h4, h5, h6⟩, h7⟩)
    (fun v w w' h1 _ ⟨x, p', e1, h3, h4, h5, h6⟩ h7 => e1 ▸ k x p' w w' h1 h3 h4 h5 h6 h7)
/-- A number below n. -/
theorem CallV.pick {n : Int} (hne : OwnNe H g) (hn : 1 ≤ n) (h : ∀ w, Ext A w → OwnAt H w → Calls P f args w (Picked g p n w))
    (k : ∀ (j : Nat) w w', Ext A w → (j : Int) < n → Rd w' g (p + 1) → w.grownBy w' (some g) → K (.int .i64 (j : Int)) H w') : CallV P f args H A K :=
  CallV.grow g hne (fun v w w' => ∃ j : Nat, v = .int .i64 (j : Int) ∧ (j : Int) < n ∧ Rd w' g (p + 1))
    (fun w h1 h2 => (h w h1 h2).mono fun e w' ⟨x, e1, h3, h4, h5, h6, h7⟩ => ⟨_, e1, ⟨x.toNat, by rw [Int.toNat_of_nonneg h3], by rw [Int.toNat_of_nonneg h3]; exact h4 hn, h6⟩, h7⟩)
    (fun v w w' h1 _ ⟨j, e1, h3, h4⟩ h7 => e1 ▸ k j w w' h1 h3 h4 h7)
theorem CallV.pkB {c : Nat} (hne : OwnNe H g) (h : ∀ w, Ext A w → OwnAt H w → Calls P f args w (PkB c g p w))
    (k : ∀ (x : Bool) (p' : Nat) w w', Ext A w → p' ≤ p + c → Rd w' g p' → w.grownBy w' (some g) → K (.bool x) H w') : CallV P f args H A K :=
  CallV.grow g hne (fun v w w' => ∃ (x : Bool) (p' : Nat), v = .bool x ∧ p' ≤ p + c ∧ Rd w' g p')
    (fun w h1 h2 => (h w h1 h2).mono fun e w' ⟨x, p', e1, h5, h6, h7⟩ => ⟨_, e1, ⟨x, p', rfl, h5, h6⟩, h7⟩)
    (fun v w w' h1 _ ⟨x, p', e1, h5, h6⟩ h7 => e1 ▸ k x p' w w' h1 h5 h6 h7)
theorem CallV.pkS {c m : Nat} (hne : OwnNe H g) (h : ∀ w, Ext A w → OwnAt H w → Calls P f args w (PkS c m g p w))
    (k : ∀ (s : ByteArray) (p' : Nat) w w', Ext A w → s.size ≤ m → p' ≤ p + c → Rd w' g p' → w.grownBy w' (some g) → K (.string s) H w') : CallV P f args H A K :=
  CallV.grow g hne (fun v w w' => ∃ (s : ByteArray) (p' : Nat), v = .string s ∧ s.size ≤ m ∧ p' ≤ p + c ∧ Rd w' g p')
    (fun w h1 h2 => (h w h1 h2).mono fun e w' ⟨s, p', e1, h4, h5, h6, h7⟩ => ⟨_, e1, ⟨s, p', rfl, h4, h5, h6⟩, h7⟩)
    (fun v w w' h1 _ ⟨s, p', e1, h4, h5, h6⟩ h7 => e1 ▸ k s p' w w' h1 h4 h5 h6 h7)
theorem CallV.pkC {c : Nat} (hne : OwnNe H g) (h : ∀ w, Ext A w → OwnAt H w → Calls P f args w (PkC c g p w))
    (k : ∀ (x : Cr) (p' : Nat) w w', Ext A w → x.small → p' ≤ p + c → Rd w' g p' → w.grownBy w' (some g) → K x.v H w') : CallV P f args H A K :=
  CallV.grow g hne (fun v w w' => ∃ (x : Cr) (p' : Nat), v = x.v ∧ x.small ∧ p' ≤ p + c ∧ Rd w' g p')
    (fun w h1 h2 => (h w h1 h2).mono fun e w' ⟨x, p', e1, h4, h5, h6, h7⟩ => ⟨_, e1, ⟨x, p', rfl, h4, h5, h6⟩, h7⟩)
    (fun v w w' h1 _ ⟨x, p', e1, h4, h5, h6⟩ h7 => e1 ▸ k x p' w w' h1 h4 h5 h6 h7)
/-- The reader is opened. -/
theorem CallV.open_ (hne : ∀ w g, Ext A w → OwnAt H w → w.heap.size ≤ g → OwnNe H g) (h : ∀ w, Ext A w → OwnAt H w → Calls P f args w fun e w' => ∃ g, e = .returned (.pointer (some ⟨g, 0, none⟩)) ∧ w.heap.size ≤ g ∧ Rd w' g 0 ∧ Below w.heap.size w w')
    (k : ∀ g w w', Ext A w → OwnNe H g → w.heap.size ≤ g → Rd w' g 0 → Ext w w' → K (.pointer (some ⟨g, 0, none⟩)) H w') : CallV P f args H A K :=
  CallV.mem (fun v w w' => ∃ g, v = .pointer (some ⟨g, 0, none⟩) ∧ w.heap.size ≤ g ∧ Rd w' g 0)
    (fun w h1 h2 => (h w h1 h2).mono fun e w' ⟨g, e1, h3, h4, h5⟩ => ⟨_, e1, ⟨g, rfl, h3, h4⟩, h5⟩)
    (fun v w w' h1 h2 h3 ⟨g, e1, h4, h5⟩ => e1 ▸ k g w w' h1 (hne w g h1 h3 h4) h4 h5 h2)
theorem OwnNe.far {w : World} (h : OwnAt H w) (hg : w.heap.size ≤ g) : OwnNe H g := OwnNe.of fun i o hi e => by have := h.lt hi; omega
end
/-- Cells in a block that stands still. -/
structure Fr (w : World) (S : Nat → Prop) (b : Nat) (l : List Value) : Prop where
  cells : CellsAt w b 0 l
  lt : b < w.heap.size
  ne : ¬ S b
theorem Fr.ext {w w' : World} {S : Nat → Prop} {b : Nat} {l : List Value} (h : Fr w S b l) (hx : Ext w w') : Fr w' S b l := ⟨h.cells.ext hx, Nat.lt_of_lt_of_le h.lt hx.size, h.ne⟩
theorem Fr.exc {w w' : World} {S : Nat → Prop} {b : Nat} {l : List Value} (h : Fr w S b l) (hX : ExcP S w w') : Fr w' S b l := ⟨h.cells.exc h.lt hX h.ne, Nat.lt_of_lt_of_le h.lt hX.size, h.ne⟩
theorem Fr.of_block {w : World} {S : Nat → Prop} {b : Nat} {cs : List Value} {t : TypeId} {fr : Nat × Nat} (h : w.heap[b]? = some (.cells cs.toArray t fr)) (hb : b < w.heap.size) (hne : ¬ S b) : Fr w S b cs := ⟨CellsAt.of_block h fun i v hi => by rw [Nat.zero_add]; exact hi, hb, hne⟩
theorem Fr.setL {w : World} {S : Nat → Prop} {b g o : Nat} {l m : List Value} (h : Fr w S b l) (hg : S g) : Fr (setL w g o m) S b l := h.exc ((ExcP.refl S w).setL hg m o)
theorem ExcP.grown {w w' : World} {S : Nat → Prop} {g : Nat} (h : w.grownBy w' (some g)) (hS : S g) : ExcP S w w' := ⟨h.os, h.tape, h.output, h.size, fun j h1 h2 => h.block j h1 (fun e => h2 (by cases e; exact hS))⟩
theorem grown_blk {w w' : World} {g b : Nat} {o : Obj} (h : w.grownBy w' (some g)) (hne : b ≠ g) (hb : b < w.heap.size) (hq : w.heap[b]? = some o) : w'.heap[b]? = some o := (h.block b hb (fun e => hne (Option.some.inj e))).trans hq
theorem grown_ext {w w' w'' : World} {g : Nat} (h : w.grownBy w' (some g)) (hx : Ext w' w'') : w.grownBy w'' (some g) := grown_trans h (below_grown hx)
theorem ext_grown {w w' w'' : World} {g : Nat} (hx : Ext w w') (h : w'.grownBy w'' (some g)) : w.grownBy w'' (some g) := grown_trans (below_grown hx) h

theorem seven {j : Nat} (hj : (j : Int) < 7) : ∃ i : Nat, i < 3 ∧ ([Value.int .i64 0, Value.int .i64 0, Value.int .i64 0, Value.int .i64 0, Value.int .i64 0, Value.int .i64 1, Value.int .i64 2] : List Value)[j]? = some (.int .i64 (i : Int)) := by
  have h : j = 0 ∨ j = 1 ∨ j = 2 ∨ j = 3 ∨ j = 4 ∨ j = 5 ∨ j = 6 := by omega
  rcases h with rfl | rfl | rfl | rfl | rfl | rfl | rfl
  all_goals first | exact ⟨0, by omega, rfl⟩ | exact ⟨1, by omega, rfl⟩ | exact ⟨2, by omega, rfl⟩
theorem three {i : Nat} (hi : i < 3) (u : Int) (u0 : 0 ≤ u) (u1 : u ≤ 7) : ∃ t : Int, (-1 ≤ t ∧ t ≤ 100) ∧ ([Value.int .i64 u, Value.int .i64 100, Value.int .i64 (-1)] : List Value)[i]? = some (.int .i64 t) := by
  have h : i = 0 ∨ i = 1 ∨ i = 2 := by omega
  rcases h with rfl | rfl | rfl
  · exact ⟨u, by omega, rfl⟩
  · exact ⟨100, by omega, rfl⟩
  · exact ⟨-1, by omega, rfl⟩
theorem dSetUser_vc (v : Value) (w : World) (h : CodeAt w v) : Calls Try.prog 34 #[v] w fun e w' => ∃ (c : Cr) (x : Int), e = .returned (.tuple #[c.v, .int .i64 x]) ∧ c.small ∧ (-1 ≤ x ∧ x ≤ 100) ∧ Below w.heap.size w w' := by
  refine calls_of cx_ok Try.func34 Try.ntmps34 Try.results34 rfl rfl ?_
  repeat (first | refine jC ?_ | refine jN ?_ | refine jS ?_ | refine jR ?_ | refine jT ?_ | refine jB ?_ | refine jX rfl ?_ | refine jY rfl ?_ | refine jK ?_ | refine jD ?_ | refine jE ?_)
  intro b2 hb2
  repeat (first | refine jC ?_ | refine jN ?_ | refine jS ?_ | refine jR ?_ | refine jT ?_ | refine jB ?_ | refine jX rfl ?_ | refine jY rfl ?_ | refine jK ?_ | refine jD ?_ | refine jE ?_)
  refine CallV.open_ (fun w' g _ hO hg => OwnNe.far hO hg) (fun w' hw _ => open_any v w' (h.below hw)) (fun g wa w1 hxa hne hg hR hx1 => ?_)
  repeat (first | refine jC ?_ | refine jN ?_ | refine jS ?_ | refine jR ?_ | refine jT ?_ | refine jB ?_ | refine jX rfl ?_ | refine jY rfl ?_ | refine jK ?_ | refine jD ?_ | refine jE ?_)
  refine CallV.pkC (g := g) hne (fun w' hw _ => cred_any g 0 9 w' (hR.below hw) (by omega) (by omega) (by omega)) (fun c p wb w2 hx2 hsm hp hR2 hg2 => ?_)
  repeat (first | refine jC ?_ | refine jN ?_ | refine jS ?_ | refine jR ?_ | refine jT ?_ | refine jB ?_ | refine jX rfl ?_ | refine jY rfl ?_ | refine jK ?_ | refine jD ?_ | refine jE ?_)
  intro b5 hb5
  repeat (first | refine jC ?_ | refine jN ?_ | refine jS ?_ | refine jR ?_ | refine jT ?_ | refine jB ?_ | refine jX rfl ?_ | refine jY rfl ?_ | refine jK ?_ | refine jD ?_ | refine jE ?_)
  refine ⟨by assumption, rfl, by simp, by simp [Value.oneCell'], ?_⟩
  repeat (first | refine jC ?_ | refine jN ?_)
  refine WpC.plain (fun w3 hx3 hO => ?_)
  have hq2 := hO.1 0 _ rfl
  have hq5 := hO.1 1 _ rfl
  have h25 : b2 ≠ b5 := fun e => absurd (hO.2 0 1 _ _ rfl rfl e) (by decide)
  have hn2 : b2 ≠ g := hne.1
  have hn5 : b5 ≠ g := by have := hR2.lt; omega
  have hR3 := hR2.below hx3
  have hC : Fr w3 (fun j => j = g ∨ j = b2) b5 [.int .i64 c.real, .int .i64 c.acts, .int .i64 c.saved, .int .i64 c.groups] := Fr.of_block (S := fun j => j = g ∨ j = b2) hq5 (by have := hO.lt (i := 1) rfl; exact this) (by rintro (e | e); exact hn5 e; exact h25 e.symm)
  have hl2 : b2 < w3.heap.size := hO.lt (i := 0) rfl
  have hgl := hR3.lt
  have hB03 : Below w.heap.size w w3 := by
    have h1 : Ext w w1 := hxa.trans hx1
    have h2 := h1.trans hx2
    exact (h2.trans' (grown_below hg2 h2.size (by have := hxa.size; omega))).trans' (hx3.mono (by have := h2.size; have := hg2.size; omega))
  have hgw : w.heap.size ≤ g := by have := hxa.size; omega
  have hq2 : w3.heap[b2]? = some (.cells #[.int .i64 0, .int .i64 0, .int .i64 0, .int .i64 0] 34 (0, 0)) := hq2
  have hG : ExcP (fun j => j = g ∨ j = b2) w3 w3 := ExcP.refl _ _
  have hR := hR3
  have hp : p ≤ 12 := by omega
  clear hO hb5 hR2 hg2 hx2 hxa hx1 hx3 hne hq5 hR3
  refine WpC.to ⟨[(2, .v (.pointer (some ⟨b2, 0, none⟩))), (4, .v (.pointer (some ⟨g, 0, none⟩))), (5, .v (.pointer (some ⟨b5, 0, none⟩)))], [], w3⟩ ⟨⟨rfl, rfl, rfl, trivial⟩, trivial, trivial, Vc.Ext.refl _⟩ ?_
  repeat (first | refine jC ?_ | refine jN ?_ | refine jS ?_ | refine jR ?_ | refine jT ?_ | refine jB ?_ | refine jX rfl ?_ | refine jY rfl ?_ | refine jK ?_ | refine jD ?_ | refine jE ?_)
  refine WpC.drawD (ExcP (fun j => j = g ∨ j = b2) w3) (fun w' hw => ExcP.of_ext hw) (.st 0 (.st 1 (.st 5 (.ef 2 (.ef 3 (.ef 4 (.ef 6 (.st 7 (.ef 8 (.st 9 (.ef 10 (.ef 11 (.st 12 .done) .done) (.ef 11 (.ef 10 (.st 12 .done) .done) .done))) (.ef 11 (.ef 8 (.st 9 (.ef 10 (.st 12 .done) .done)) .done) .done))) .done) (.ef 6 (.ef 4 (.st 7 (.ef 8 (.st 9 (.ef 10 (.ef 11 (.st 12 .done) .done) (.ef 11 (.ef 10 (.st 12 .done) .done) .done))) (.ef 11 (.ef 8 (.st 9 (.ef 10 (.st 12 .done) .done)) .done) .done))) (.ef 11 (.ef 4 (.st 7 (.ef 8 (.st 9 (.ef 10 (.st 12 .done) .done)) .done)) .done) .done)) .done)) (.ef 4 (.ef 3 (.ef 6 (.st 7 (.ef 8 (.st 9 (.ef 10 (.ef 11 (.st 12 .done) .done) (.ef 11 (.ef 10 (.st 12 .done) .done) .done))) (.ef 11 (.ef 8 (.st 9 (.ef 10 (.st 12 .done) .done)) .done) .done))) .done) (.ef 6 (.st 7 (.ef 3 (.ef 8 (.st 9 (.ef 10 (.ef 11 (.st 12 .done) .done) (.ef 11 (.ef 10 (.st 12 .done) .done) .done))) (.ef 11 (.ef 8 (.st 9 (.ef 10 (.st 12 .done) .done)) .done) .done)) (.ef 8 (.ef 3 (.st 9 (.ef 10 (.ef 11 (.st 12 .done) .done) (.ef 11 (.ef 10 (.st 12 .done) .done) .done))) (.ef 11 (.ef 3 (.st 9 (.ef 10 (.st 12 .done) .done)) .done) .done)) (.ef 11 (.ef 3 (.ef 8 (.st 9 (.ef 10 (.st 12 .done) .done)) .done) (.ef 8 (.ef 3 (.st 9 (.ef 10 (.st 12 .done) .done)) .done) .done)) .done)))) .done)) (.ef 6 (.ef 3 (.ef 4 (.st 7 (.ef 8 (.st 9 (.ef 10 (.ef 11 (.st 12 .done) .done) (.ef 11 (.ef 10 (.st 12 .done) .done) .done))) (.ef 11 (.ef 8 (.st 9 (.ef 10 (.st 12 .done) .done)) .done) .done))) (.ef 11 (.ef 4 (.st 7 (.ef 8 (.st 9 (.ef 10 (.st 12 .done) .done)) .done)) .done) .done)) (.ef 4 (.st 7 (.ef 3 (.ef 8 (.st 9 (.ef 10 (.ef 11 (.st 12 .done) .done) (.ef 11 (.ef 10 (.st 12 .done) .done) .done))) (.ef 11 (.ef 8 (.st 9 (.ef 10 (.st 12 .done) .done)) .done) .done)) (.ef 8 (.ef 3 (.st 9 (.ef 10 (.ef 11 (.st 12 .done) .done) (.ef 11 (.ef 10 (.st 12 .done) .done) .done))) (.ef 11 (.ef 3 (.st 9 (.ef 10 (.st 12 .done) .done)) .done) .done)) (.ef 11 (.ef 3 (.ef 8 (.st 9 (.ef 10 (.st 12 .done) .done)) .done) (.ef 8 (.ef 3 (.st 9 (.ef 10 (.st 12 .done) .done)) .done) .done)) .done)))) (.ef 11 (.ef 3 (.ef 4 (.st 7 (.ef 8 (.st 9 (.ef 10 (.st 12 .done) .done)) .done)) .done) (.ef 4 (.st 7 (.ef 3 (.ef 8 (.st 9 (.ef 10 (.st 12 .done) .done)) .done) (.ef 8 (.ef 3 (.st 9 (.ef 10 (.st 12 .done) .done)) .done) .done))) .done)) .done))) .done))) (.ef 4 (.ef 2 (.ef 3 (.ef 6 (.st 7 (.ef 8 (.st 9 (.ef 10 (.ef 11 (.st 12 .done) .done) (.ef 11 (.ef 10 (.st 12 .done) .done) .done))) (.ef 11 (.ef 8 (.st 9 (.ef 10 (.st 12 .done) .done)) .done) .done))) .done) (.ef 6 (.st 7 (.ef 3 (.ef 8 (.st 9 (.ef 10 (.ef 11 (.st 12 .done) .done) (.ef 11 (.ef 10 (.st 12 .done) .done) .done))) (.ef 11 (.ef 8 (.st 9 (.ef 10 (.st 12 .done) .done)) .done) .done)) (.ef 8 (.ef 3 (.st 9 (.ef 10 (.ef 11 (.st 12 .done) .done) (.ef 11 (.ef 10 (.st 12 .done) .done) .done))) (.ef 11 (.ef 3 (.st 9 (.ef 10 (.st 12 .done) .done)) .done) .done)) (.ef 11 (.ef 3 (.ef 8 (.st 9 (.ef 10 (.st 12 .done) .done)) .done) (.ef 8 (.ef 3 (.st 9 (.ef 10 (.st 12 .done) .done)) .done) .done)) .done)))) .done)) .done) .done))))) [(1, .mv), (2, .ef), (3, .ef), (4, .ef), (5, .mv), (6, .ef), (8, .ef), (10, .ef), (11, .ef), (12, .mv)] (by kernel_rfl) ?_
  refine WpE.rdD (by exact rfl) (by exact rfl) ?_
  refine ⟨_, fun w' hw => LdN.mk (hC.exc hw).cells rfl rfl, ?_⟩
  clear hC
  refine uM ?_
  refine uM ?_
  refine WpE.ef2 (by exact rfl) (by exact rfl) ?_ ?_
  · refine CallV.pk (g := g) trivial (fun w' hw _ => user_any g _ w' (hR.below hw) (by omega)) (fun u q wq wr hxq hu0 hu1 hq hR' hg' => ?_)
    have hX := ExcP.grown (S := fun j => j = g ∨ j = b2) (ext_grown hxq hg') (.inl rfl)
    replace hR := hR'
    replace hq2 := grown_blk (ext_grown hxq hg') hn2 hl2 hq2
    replace hl2 := Nat.lt_of_lt_of_le hl2 hX.size
    replace hG := hG.trans hX
    try replace hB := hB.exc hX
    clear hX hR' hg' hxq
    refine ⟨Keep.mk fun w' hw => hG.trans (ExcP.of_ext hw), ?_⟩
    refine WpE.ef2 (by exact rfl) (by exact rfl) ?_ ?_
    · refine Made.mk fun gm wm hxm hm1 hm2 hm3 _ => ?_
      have hA := Fr.of_block (S := fun j => j = g ∨ j = b2) (cs := [.int .i64 u, .int .i64 100, .int .i64 (-1)]) hm3 hm2 (by have := hG.size; omega)
      try replace hB := hB.ext hxm
      try replace hR := hR.below hxm
      try replace hZ := hZ.ext hxm
      try replace hq2 := (hxm.block b2 hl2).trans hq2
      replace hl2 := Nat.lt_of_lt_of_le hl2 hxm.size
      replace hG := hG.trans (ExcP.of_ext hxm)
      clear hxm hm3 hm1
      refine ⟨Keep.mk fun w' hw => hG.trans (ExcP.of_ext hw), ?_⟩
      refine WpE.ef2 (by exact rfl) (by exact rfl) ?_ ?_
      · refine Made.mk fun gm wm hxm hm1 hm2 hm3 _ => ?_
        have hB := Fr.of_block (S := fun j => j = g ∨ j = b2) (cs := [.int .i64 0, .int .i64 0, .int .i64 0, .int .i64 0, .int .i64 0, .int .i64 1, .int .i64 2]) hm3 hm2 (by have := hG.size; omega)
        try replace hA := hA.ext hxm
        try replace hR := hR.below hxm
        try replace hZ := hZ.ext hxm
        try replace hq2 := (hxm.block b2 hl2).trans hq2
        replace hl2 := Nat.lt_of_lt_of_le hl2 hxm.size
        replace hG := hG.trans (ExcP.of_ext hxm)
        clear hxm hm3 hm1
        refine ⟨Keep.mk fun w' hw => hG.trans (ExcP.of_ext hw), ?_⟩
        refine uE ?_
        refine CallV.pick (g := g) trivial (by omega) (fun w' hw _ => pick_any g _ 7 w' (hR.below hw) (by omega) (by omega)) (fun j wq wr hxq hj hR' hg' => ?_)
        obtain ⟨i, hi, hij⟩ := seven hj
        have hX := ExcP.grown (S := fun j => j = g ∨ j = b2) (ext_grown hxq hg') (.inl rfl)
        replace hq2 := grown_blk (ext_grown hxq hg') hn2 hl2 hq2
        replace hl2 := Nat.lt_of_lt_of_le hl2 hX.size
        replace hG := hG.trans hX
        try replace hB := hB.exc hX
        try replace hA := hA.exc hX
        clear hR hR' hg' hX hxq
        refine ⟨Keep.mk fun w' hw => hG.trans (ExcP.of_ext hw), ?_⟩
        refine WpE.rdD (by exact rfl) (by exact rfl) ?_
        refine ⟨_, fun w' hw => Ix.mk j rfl (by omega) rfl, ?_⟩
        refine WpE.ef2 (by exact rfl) (by exact rfl) ?_ ?_
        · refine Ld.mk (hB.cells.out j _ hij) ?_
          clear hB
          refine ⟨Keep.mk fun w' hw => hG.trans (ExcP.of_ext hw), ?_⟩
          refine WpE.rdD (by exact rfl) (by exact rfl) ?_
          refine ⟨_, fun w' hw => Ix.mk i rfl (by omega) rfl, ?_⟩
          refine WpE.ef2 (by exact rfl) (by exact rfl) ?_ ?_
          · obtain ⟨t, ht, hti⟩ := three hi u hu0 hu1
            refine Ld.mk (hA.cells.out i _ hti) ?_
            refine ⟨Keep.mk fun w' hw => hG.trans (ExcP.of_ext hw), ?_⟩
            refine uE ?_
            have hm2 := MutN.of_block (o := 0) (n := 4) hq2 (by simp)
            refine ⟨hm2, trivial, rfl, by simp [Value.oneCell'], ?_⟩
            have hZ := CellsAt.setL_in (l := [.int .i64 c.real, .int .i64 c.acts, .int .i64 c.saved, .int .i64 c.groups]) hm2
            replace hG := hG.setL (g := b2) (.inr rfl) [.int .i64 c.real, .int .i64 c.acts, .int .i64 c.saved, .int .i64 c.groups] 0
            try replace hA := hA.setL (S := fun j => j = g ∨ j = b2) (g := b2) (o := 0) (m := [.int .i64 c.real, .int .i64 c.acts, .int .i64 c.saved, .int .i64 c.groups]) (.inr rfl)
            try replace hB := hB.setL (S := fun j => j = g ∨ j = b2) (g := b2) (o := 0) (m := [.int .i64 c.real, .int .i64 c.acts, .int .i64 c.saved, .int .i64 c.groups]) (.inr rfl)
            replace hl2 := Nat.lt_of_lt_of_eq hl2 (setL_size b2 [.int .i64 c.real, .int .i64 c.acts, .int .i64 c.saved, .int .i64 c.groups] _ 0).symm
            clear hq2 hm2
            refine ⟨Keep.mk fun w' hw => hG.trans (ExcP.of_ext hw), ?_⟩
            refine WpE.now fun wn hxn _ => ?_
            replace hZ := hZ.ext hxn
            replace hG := hG.trans (ExcP.of_ext hxn)
            try replace hA := hA.ext hxn
            try replace hB := hB.ext hxn
            replace hl2 := Nat.lt_of_lt_of_le hl2 hxn.size
            clear hxn
            refine uM ?_
            refine uD ?_
            repeat (first | refine jC ?_ | refine jN ?_ | refine jS ?_ | refine jR ?_ | refine jT ?_ | refine jB ?_ | refine jX rfl ?_ | refine jY rfl ?_ | refine jK ?_ | refine jD ?_ | refine jE ?_)
            refine LdN.mk hZ rfl ?_
            repeat (first | refine jC ?_ | refine jN ?_ | refine jS ?_ | refine jR ?_ | refine jT ?_ | refine jB ?_ | refine jX rfl ?_ | refine jY rfl ?_ | refine jK ?_ | refine jD ?_ | refine jE ?_)
            exact EndV.mk fun w' hw' => ⟨c, t, rfl, hsm, ht, hB03.trans ((hG.trans (ExcP.of_ext hw')).below hB03.size (by rintro j hj (e | e) <;> omega))⟩
          · refine uE ?_
            have hm2 := MutN.of_block (o := 0) (n := 4) hq2 (by simp)
            refine ⟨hm2, trivial, rfl, by simp [Value.oneCell'], ?_⟩
            have hZ := CellsAt.setL_in (l := [.int .i64 c.real, .int .i64 c.acts, .int .i64 c.saved, .int .i64 c.groups]) hm2
            replace hG := hG.setL (g := b2) (.inr rfl) [.int .i64 c.real, .int .i64 c.acts, .int .i64 c.saved, .int .i64 c.groups] 0
            try replace hA := hA.setL (S := fun j => j = g ∨ j = b2) (g := b2) (o := 0) (m := [.int .i64 c.real, .int .i64 c.acts, .int .i64 c.saved, .int .i64 c.groups]) (.inr rfl)
            try replace hB := hB.setL (S := fun j => j = g ∨ j = b2) (g := b2) (o := 0) (m := [.int .i64 c.real, .int .i64 c.acts, .int .i64 c.saved, .int .i64 c.groups]) (.inr rfl)
            replace hl2 := Nat.lt_of_lt_of_eq hl2 (setL_size b2 [.int .i64 c.real, .int .i64 c.acts, .int .i64 c.saved, .int .i64 c.groups] _ 0).symm
            clear hq2 hm2
            refine ⟨Keep.mk fun w' hw => hG.trans (ExcP.of_ext hw), ?_⟩
            refine WpE.now fun wn hxn _ => ?_
            replace hZ := hZ.ext hxn
            replace hG := hG.trans (ExcP.of_ext hxn)
            try replace hA := hA.ext hxn
            try replace hB := hB.ext hxn
            replace hl2 := Nat.lt_of_lt_of_le hl2 hxn.size
            clear hxn
            refine uE ?_
            obtain ⟨t, ht, hti⟩ := three hi u hu0 hu1
            refine Ld.mk (hA.cells.out i _ hti) ?_
            refine ⟨Keep.mk fun w' hw => hG.trans (ExcP.of_ext hw), ?_⟩
            refine uM ?_
            refine uD ?_
            repeat (first | refine jC ?_ | refine jN ?_ | refine jS ?_ | refine jR ?_ | refine jT ?_ | refine jB ?_ | refine jX rfl ?_ | refine jY rfl ?_ | refine jK ?_ | refine jD ?_ | refine jE ?_)
            refine LdN.mk hZ rfl ?_
            repeat (first | refine jC ?_ | refine jN ?_ | refine jS ?_ | refine jR ?_ | refine jT ?_ | refine jB ?_ | refine jX rfl ?_ | refine jY rfl ?_ | refine jK ?_ | refine jD ?_ | refine jE ?_)
            exact EndV.mk fun w' hw' => ⟨c, t, rfl, hsm, ht, hB03.trans ((hG.trans (ExcP.of_ext hw')).below hB03.size (by rintro j hj (e | e) <;> omega))⟩
        · refine uE ?_
          have hm2 := MutN.of_block (o := 0) (n := 4) hq2 (by simp)
          refine ⟨hm2, trivial, rfl, by simp [Value.oneCell'], ?_⟩
          have hZ := CellsAt.setL_in (l := [.int .i64 c.real, .int .i64 c.acts, .int .i64 c.saved, .int .i64 c.groups]) hm2
          replace hG := hG.setL (g := b2) (.inr rfl) [.int .i64 c.real, .int .i64 c.acts, .int .i64 c.saved, .int .i64 c.groups] 0
          try replace hA := hA.setL (S := fun j => j = g ∨ j = b2) (g := b2) (o := 0) (m := [.int .i64 c.real, .int .i64 c.acts, .int .i64 c.saved, .int .i64 c.groups]) (.inr rfl)
          try replace hB := hB.setL (S := fun j => j = g ∨ j = b2) (g := b2) (o := 0) (m := [.int .i64 c.real, .int .i64 c.acts, .int .i64 c.saved, .int .i64 c.groups]) (.inr rfl)
          replace hl2 := Nat.lt_of_lt_of_eq hl2 (setL_size b2 [.int .i64 c.real, .int .i64 c.acts, .int .i64 c.saved, .int .i64 c.groups] _ 0).symm
          clear hq2 hm2
          refine ⟨Keep.mk fun w' hw => hG.trans (ExcP.of_ext hw), ?_⟩
          refine WpE.now fun wn hxn _ => ?_
          replace hZ := hZ.ext hxn
          replace hG := hG.trans (ExcP.of_ext hxn)
          try replace hA := hA.ext hxn
          try replace hB := hB.ext hxn
          replace hl2 := Nat.lt_of_lt_of_le hl2 hxn.size
          clear hxn
          refine uE ?_
          refine Ld.mk (hB.cells.out j _ hij) ?_
          clear hB
          refine ⟨Keep.mk fun w' hw => hG.trans (ExcP.of_ext hw), ?_⟩
          refine WpE.rdD (by exact rfl) (by exact rfl) ?_
          refine ⟨_, fun w' hw => Ix.mk i rfl (by omega) rfl, ?_⟩
          refine uE ?_
          obtain ⟨t, ht, hti⟩ := three hi u hu0 hu1
          refine Ld.mk (hA.cells.out i _ hti) ?_
          refine ⟨Keep.mk fun w' hw => hG.trans (ExcP.of_ext hw), ?_⟩
          refine uM ?_
          refine uD ?_
          repeat (first | refine jC ?_ | refine jN ?_ | refine jS ?_ | refine jR ?_ | refine jT ?_ | refine jB ?_ | refine jX rfl ?_ | refine jY rfl ?_ | refine jK ?_ | refine jD ?_ | refine jE ?_)
          refine LdN.mk hZ rfl ?_
          repeat (first | refine jC ?_ | refine jN ?_ | refine jS ?_ | refine jR ?_ | refine jT ?_ | refine jB ?_ | refine jX rfl ?_ | refine jY rfl ?_ | refine jK ?_ | refine jD ?_ | refine jE ?_)
          exact EndV.mk fun w' hw' => ⟨c, t, rfl, hsm, ht, hB03.trans ((hG.trans (ExcP.of_ext hw')).below hB03.size (by rintro j hj (e | e) <;> omega))⟩
      · refine uE ?_
        refine CallV.pick (g := g) trivial (by omega) (fun w' hw _ => pick_any g _ 7 w' (hR.below hw) (by omega) (by omega)) (fun j wq wr hxq hj hR' hg' => ?_)
        obtain ⟨i, hi, hij⟩ := seven hj
        have hX := ExcP.grown (S := fun j => j = g ∨ j = b2) (ext_grown hxq hg') (.inl rfl)
        replace hq2 := grown_blk (ext_grown hxq hg') hn2 hl2 hq2
        replace hl2 := Nat.lt_of_lt_of_le hl2 hX.size
        replace hG := hG.trans hX
        try replace hB := hB.exc hX
        try replace hA := hA.exc hX
        clear hR hR' hg' hX hxq
        refine ⟨Keep.mk fun w' hw => hG.trans (ExcP.of_ext hw), ?_⟩
        refine WpE.ef2 (by exact rfl) (by exact rfl) ?_ ?_
        · refine Made.mk fun gm wm hxm hm1 hm2 hm3 _ => ?_
          have hB := Fr.of_block (S := fun j => j = g ∨ j = b2) (cs := [.int .i64 0, .int .i64 0, .int .i64 0, .int .i64 0, .int .i64 0, .int .i64 1, .int .i64 2]) hm3 hm2 (by have := hG.size; omega)
          try replace hA := hA.ext hxm
          try replace hR := hR.below hxm
          try replace hZ := hZ.ext hxm
          try replace hq2 := (hxm.block b2 hl2).trans hq2
          replace hl2 := Nat.lt_of_lt_of_le hl2 hxm.size
          replace hG := hG.trans (ExcP.of_ext hxm)
          clear hxm hm3 hm1
          refine ⟨Keep.mk fun w' hw => hG.trans (ExcP.of_ext hw), ?_⟩
          refine WpE.rdD (by exact rfl) (by exact rfl) ?_
          refine ⟨_, fun w' hw => Ix.mk j rfl (by omega) rfl, ?_⟩
          refine WpE.ef2 (by exact rfl) (by exact rfl) ?_ ?_
          · refine Ld.mk (hB.cells.out j _ hij) ?_
            clear hB
            refine ⟨Keep.mk fun w' hw => hG.trans (ExcP.of_ext hw), ?_⟩
            refine WpE.rdD (by exact rfl) (by exact rfl) ?_
            refine ⟨_, fun w' hw => Ix.mk i rfl (by omega) rfl, ?_⟩
            refine WpE.ef2 (by exact rfl) (by exact rfl) ?_ ?_
            · obtain ⟨t, ht, hti⟩ := three hi u hu0 hu1
              refine Ld.mk (hA.cells.out i _ hti) ?_
              refine ⟨Keep.mk fun w' hw => hG.trans (ExcP.of_ext hw), ?_⟩
              refine uE ?_
              have hm2 := MutN.of_block (o := 0) (n := 4) hq2 (by simp)
              refine ⟨hm2, trivial, rfl, by simp [Value.oneCell'], ?_⟩
              have hZ := CellsAt.setL_in (l := [.int .i64 c.real, .int .i64 c.acts, .int .i64 c.saved, .int .i64 c.groups]) hm2
              replace hG := hG.setL (g := b2) (.inr rfl) [.int .i64 c.real, .int .i64 c.acts, .int .i64 c.saved, .int .i64 c.groups] 0
              try replace hA := hA.setL (S := fun j => j = g ∨ j = b2) (g := b2) (o := 0) (m := [.int .i64 c.real, .int .i64 c.acts, .int .i64 c.saved, .int .i64 c.groups]) (.inr rfl)
              try replace hB := hB.setL (S := fun j => j = g ∨ j = b2) (g := b2) (o := 0) (m := [.int .i64 c.real, .int .i64 c.acts, .int .i64 c.saved, .int .i64 c.groups]) (.inr rfl)
              replace hl2 := Nat.lt_of_lt_of_eq hl2 (setL_size b2 [.int .i64 c.real, .int .i64 c.acts, .int .i64 c.saved, .int .i64 c.groups] _ 0).symm
              clear hq2 hm2
              refine ⟨Keep.mk fun w' hw => hG.trans (ExcP.of_ext hw), ?_⟩
              refine WpE.now fun wn hxn _ => ?_
              replace hZ := hZ.ext hxn
              replace hG := hG.trans (ExcP.of_ext hxn)
              try replace hA := hA.ext hxn
              try replace hB := hB.ext hxn
              replace hl2 := Nat.lt_of_lt_of_le hl2 hxn.size
              clear hxn
              refine uM ?_
              refine uD ?_
              repeat (first | refine jC ?_ | refine jN ?_ | refine jS ?_ | refine jR ?_ | refine jT ?_ | refine jB ?_ | refine jX rfl ?_ | refine jY rfl ?_ | refine jK ?_ | refine jD ?_ | refine jE ?_)
              refine LdN.mk hZ rfl ?_
              repeat (first | refine jC ?_ | refine jN ?_ | refine jS ?_ | refine jR ?_ | refine jT ?_ | refine jB ?_ | refine jX rfl ?_ | refine jY rfl ?_ | refine jK ?_ | refine jD ?_ | refine jE ?_)
              exact EndV.mk fun w' hw' => ⟨c, t, rfl, hsm, ht, hB03.trans ((hG.trans (ExcP.of_ext hw')).below hB03.size (by rintro j hj (e | e) <;> omega))⟩
            · refine uE ?_
              have hm2 := MutN.of_block (o := 0) (n := 4) hq2 (by simp)
              refine ⟨hm2, trivial, rfl, by simp [Value.oneCell'], ?_⟩
              have hZ := CellsAt.setL_in (l := [.int .i64 c.real, .int .i64 c.acts, .int .i64 c.saved, .int .i64 c.groups]) hm2
              replace hG := hG.setL (g := b2) (.inr rfl) [.int .i64 c.real, .int .i64 c.acts, .int .i64 c.saved, .int .i64 c.groups] 0
              try replace hA := hA.setL (S := fun j => j = g ∨ j = b2) (g := b2) (o := 0) (m := [.int .i64 c.real, .int .i64 c.acts, .int .i64 c.saved, .int .i64 c.groups]) (.inr rfl)
              try replace hB := hB.setL (S := fun j => j = g ∨ j = b2) (g := b2) (o := 0) (m := [.int .i64 c.real, .int .i64 c.acts, .int .i64 c.saved, .int .i64 c.groups]) (.inr rfl)
              replace hl2 := Nat.lt_of_lt_of_eq hl2 (setL_size b2 [.int .i64 c.real, .int .i64 c.acts, .int .i64 c.saved, .int .i64 c.groups] _ 0).symm
              clear hq2 hm2
              refine ⟨Keep.mk fun w' hw => hG.trans (ExcP.of_ext hw), ?_⟩
              refine WpE.now fun wn hxn _ => ?_
              replace hZ := hZ.ext hxn
              replace hG := hG.trans (ExcP.of_ext hxn)
              try replace hA := hA.ext hxn
              try replace hB := hB.ext hxn
              replace hl2 := Nat.lt_of_lt_of_le hl2 hxn.size
              clear hxn
              refine uE ?_
              obtain ⟨t, ht, hti⟩ := three hi u hu0 hu1
              refine Ld.mk (hA.cells.out i _ hti) ?_
              refine ⟨Keep.mk fun w' hw => hG.trans (ExcP.of_ext hw), ?_⟩
              refine uM ?_
              refine uD ?_
              repeat (first | refine jC ?_ | refine jN ?_ | refine jS ?_ | refine jR ?_ | refine jT ?_ | refine jB ?_ | refine jX rfl ?_ | refine jY rfl ?_ | refine jK ?_ | refine jD ?_ | refine jE ?_)
              refine LdN.mk hZ rfl ?_
              repeat (first | refine jC ?_ | refine jN ?_ | refine jS ?_ | refine jR ?_ | refine jT ?_ | refine jB ?_ | refine jX rfl ?_ | refine jY rfl ?_ | refine jK ?_ | refine jD ?_ | refine jE ?_)
              exact EndV.mk fun w' hw' => ⟨c, t, rfl, hsm, ht, hB03.trans ((hG.trans (ExcP.of_ext hw')).below hB03.size (by rintro j hj (e | e) <;> omega))⟩
          · refine uE ?_
            have hm2 := MutN.of_block (o := 0) (n := 4) hq2 (by simp)
            refine ⟨hm2, trivial, rfl, by simp [Value.oneCell'], ?_⟩
            have hZ := CellsAt.setL_in (l := [.int .i64 c.real, .int .i64 c.acts, .int .i64 c.saved, .int .i64 c.groups]) hm2
            replace hG := hG.setL (g := b2) (.inr rfl) [.int .i64 c.real, .int .i64 c.acts, .int .i64 c.saved, .int .i64 c.groups] 0
            try replace hA := hA.setL (S := fun j => j = g ∨ j = b2) (g := b2) (o := 0) (m := [.int .i64 c.real, .int .i64 c.acts, .int .i64 c.saved, .int .i64 c.groups]) (.inr rfl)
            try replace hB := hB.setL (S := fun j => j = g ∨ j = b2) (g := b2) (o := 0) (m := [.int .i64 c.real, .int .i64 c.acts, .int .i64 c.saved, .int .i64 c.groups]) (.inr rfl)
            replace hl2 := Nat.lt_of_lt_of_eq hl2 (setL_size b2 [.int .i64 c.real, .int .i64 c.acts, .int .i64 c.saved, .int .i64 c.groups] _ 0).symm
            clear hq2 hm2
            refine ⟨Keep.mk fun w' hw => hG.trans (ExcP.of_ext hw), ?_⟩
            refine WpE.now fun wn hxn _ => ?_
            replace hZ := hZ.ext hxn
            replace hG := hG.trans (ExcP.of_ext hxn)
            try replace hA := hA.ext hxn
            try replace hB := hB.ext hxn
            replace hl2 := Nat.lt_of_lt_of_le hl2 hxn.size
            clear hxn
            refine uE ?_
            refine Ld.mk (hB.cells.out j _ hij) ?_
            clear hB
            refine ⟨Keep.mk fun w' hw => hG.trans (ExcP.of_ext hw), ?_⟩
            refine WpE.rdD (by exact rfl) (by exact rfl) ?_
            refine ⟨_, fun w' hw => Ix.mk i rfl (by omega) rfl, ?_⟩
            refine uE ?_
            obtain ⟨t, ht, hti⟩ := three hi u hu0 hu1
            refine Ld.mk (hA.cells.out i _ hti) ?_
            refine ⟨Keep.mk fun w' hw => hG.trans (ExcP.of_ext hw), ?_⟩
            refine uM ?_
            refine uD ?_
            repeat (first | refine jC ?_ | refine jN ?_ | refine jS ?_ | refine jR ?_ | refine jT ?_ | refine jB ?_ | refine jX rfl ?_ | refine jY rfl ?_ | refine jK ?_ | refine jD ?_ | refine jE ?_)
            refine LdN.mk hZ rfl ?_
            repeat (first | refine jC ?_ | refine jN ?_ | refine jS ?_ | refine jR ?_ | refine jT ?_ | refine jB ?_ | refine jX rfl ?_ | refine jY rfl ?_ | refine jK ?_ | refine jD ?_ | refine jE ?_)
            exact EndV.mk fun w' hw' => ⟨c, t, rfl, hsm, ht, hB03.trans ((hG.trans (ExcP.of_ext hw')).below hB03.size (by rintro j hj (e | e) <;> omega))⟩
        · refine uE ?_
          have hm2 := MutN.of_block (o := 0) (n := 4) hq2 (by simp)
          refine ⟨hm2, trivial, rfl, by simp [Value.oneCell'], ?_⟩
          have hZ := CellsAt.setL_in (l := [.int .i64 c.real, .int .i64 c.acts, .int .i64 c.saved, .int .i64 c.groups]) hm2
          replace hG := hG.setL (g := b2) (.inr rfl) [.int .i64 c.real, .int .i64 c.acts, .int .i64 c.saved, .int .i64 c.groups] 0
          try replace hA := hA.setL (S := fun j => j = g ∨ j = b2) (g := b2) (o := 0) (m := [.int .i64 c.real, .int .i64 c.acts, .int .i64 c.saved, .int .i64 c.groups]) (.inr rfl)
          try replace hB := hB.setL (S := fun j => j = g ∨ j = b2) (g := b2) (o := 0) (m := [.int .i64 c.real, .int .i64 c.acts, .int .i64 c.saved, .int .i64 c.groups]) (.inr rfl)
          replace hl2 := Nat.lt_of_lt_of_eq hl2 (setL_size b2 [.int .i64 c.real, .int .i64 c.acts, .int .i64 c.saved, .int .i64 c.groups] _ 0).symm
          clear hq2 hm2
          refine ⟨Keep.mk fun w' hw => hG.trans (ExcP.of_ext hw), ?_⟩
          refine WpE.now fun wn hxn _ => ?_
          replace hZ := hZ.ext hxn
          replace hG := hG.trans (ExcP.of_ext hxn)
          try replace hA := hA.ext hxn
          try replace hB := hB.ext hxn
          replace hl2 := Nat.lt_of_lt_of_le hl2 hxn.size
          clear hxn
          refine uE ?_
          refine Made.mk fun gm wm hxm hm1 hm2 hm3 _ => ?_
          have hB := Fr.of_block (S := fun j => j = g ∨ j = b2) (cs := [.int .i64 0, .int .i64 0, .int .i64 0, .int .i64 0, .int .i64 0, .int .i64 1, .int .i64 2]) hm3 hm2 (by have := hG.size; omega)
          try replace hA := hA.ext hxm
          try replace hR := hR.below hxm
          try replace hZ := hZ.ext hxm
          try replace hq2 := (hxm.block b2 hl2).trans hq2
          replace hl2 := Nat.lt_of_lt_of_le hl2 hxm.size
          replace hG := hG.trans (ExcP.of_ext hxm)
          clear hxm hm3 hm1
          refine ⟨Keep.mk fun w' hw => hG.trans (ExcP.of_ext hw), ?_⟩
          refine WpE.rdD (by exact rfl) (by exact rfl) ?_
          refine ⟨_, fun w' hw => Ix.mk j rfl (by omega) rfl, ?_⟩
          refine uE ?_
          refine Ld.mk (hB.cells.out j _ hij) ?_
          clear hB
          refine ⟨Keep.mk fun w' hw => hG.trans (ExcP.of_ext hw), ?_⟩
          refine WpE.rdD (by exact rfl) (by exact rfl) ?_
          refine ⟨_, fun w' hw => Ix.mk i rfl (by omega) rfl, ?_⟩
          refine uE ?_
          obtain ⟨t, ht, hti⟩ := three hi u hu0 hu1
          refine Ld.mk (hA.cells.out i _ hti) ?_
          refine ⟨Keep.mk fun w' hw => hG.trans (ExcP.of_ext hw), ?_⟩
          refine uM ?_
          refine uD ?_
          repeat (first | refine jC ?_ | refine jN ?_ | refine jS ?_ | refine jR ?_ | refine jT ?_ | refine jB ?_ | refine jX rfl ?_ | refine jY rfl ?_ | refine jK ?_ | refine jD ?_ | refine jE ?_)
          refine LdN.mk hZ rfl ?_
          repeat (first | refine jC ?_ | refine jN ?_ | refine jS ?_ | refine jR ?_ | refine jT ?_ | refine jB ?_ | refine jX rfl ?_ | refine jY rfl ?_ | refine jK ?_ | refine jD ?_ | refine jE ?_)
          exact EndV.mk fun w' hw' => ⟨c, t, rfl, hsm, ht, hB03.trans ((hG.trans (ExcP.of_ext hw')).below hB03.size (by rintro j hj (e | e) <;> omega))⟩
    · refine WpE.ef2 (by exact rfl) (by exact rfl) ?_ ?_
      · refine Made.mk fun gm wm hxm hm1 hm2 hm3 _ => ?_
        have hB := Fr.of_block (S := fun j => j = g ∨ j = b2) (cs := [.int .i64 0, .int .i64 0, .int .i64 0, .int .i64 0, .int .i64 0, .int .i64 1, .int .i64 2]) hm3 hm2 (by have := hG.size; omega)
        try replace hA := hA.ext hxm
        try replace hR := hR.below hxm
        try replace hZ := hZ.ext hxm
        try replace hq2 := (hxm.block b2 hl2).trans hq2
        replace hl2 := Nat.lt_of_lt_of_le hl2 hxm.size
        replace hG := hG.trans (ExcP.of_ext hxm)
        clear hxm hm3 hm1
        refine ⟨Keep.mk fun w' hw => hG.trans (ExcP.of_ext hw), ?_⟩
        refine WpE.ef2 (by exact rfl) (by exact rfl) ?_ ?_
        · refine Made.mk fun gm wm hxm hm1 hm2 hm3 _ => ?_
          have hA := Fr.of_block (S := fun j => j = g ∨ j = b2) (cs := [.int .i64 u, .int .i64 100, .int .i64 (-1)]) hm3 hm2 (by have := hG.size; omega)
          try replace hB := hB.ext hxm
          try replace hR := hR.below hxm
          try replace hZ := hZ.ext hxm
          try replace hq2 := (hxm.block b2 hl2).trans hq2
          replace hl2 := Nat.lt_of_lt_of_le hl2 hxm.size
          replace hG := hG.trans (ExcP.of_ext hxm)
          clear hxm hm3 hm1
          refine ⟨Keep.mk fun w' hw => hG.trans (ExcP.of_ext hw), ?_⟩
          refine uE ?_
          refine CallV.pick (g := g) trivial (by omega) (fun w' hw _ => pick_any g _ 7 w' (hR.below hw) (by omega) (by omega)) (fun j wq wr hxq hj hR' hg' => ?_)
          obtain ⟨i, hi, hij⟩ := seven hj
          have hX := ExcP.grown (S := fun j => j = g ∨ j = b2) (ext_grown hxq hg') (.inl rfl)
          replace hq2 := grown_blk (ext_grown hxq hg') hn2 hl2 hq2
          replace hl2 := Nat.lt_of_lt_of_le hl2 hX.size
          replace hG := hG.trans hX
          try replace hB := hB.exc hX
          try replace hA := hA.exc hX
          clear hR hR' hg' hX hxq
          refine ⟨Keep.mk fun w' hw => hG.trans (ExcP.of_ext hw), ?_⟩
          refine WpE.rdD (by exact rfl) (by exact rfl) ?_
          refine ⟨_, fun w' hw => Ix.mk j rfl (by omega) rfl, ?_⟩
          refine WpE.ef2 (by exact rfl) (by exact rfl) ?_ ?_
          · refine Ld.mk (hB.cells.out j _ hij) ?_
            clear hB
            refine ⟨Keep.mk fun w' hw => hG.trans (ExcP.of_ext hw), ?_⟩
            refine WpE.rdD (by exact rfl) (by exact rfl) ?_
            refine ⟨_, fun w' hw => Ix.mk i rfl (by omega) rfl, ?_⟩
            refine WpE.ef2 (by exact rfl) (by exact rfl) ?_ ?_
            · obtain ⟨t, ht, hti⟩ := three hi u hu0 hu1
              refine Ld.mk (hA.cells.out i _ hti) ?_
              refine ⟨Keep.mk fun w' hw => hG.trans (ExcP.of_ext hw), ?_⟩
              refine uE ?_
              have hm2 := MutN.of_block (o := 0) (n := 4) hq2 (by simp)
              refine ⟨hm2, trivial, rfl, by simp [Value.oneCell'], ?_⟩
              have hZ := CellsAt.setL_in (l := [.int .i64 c.real, .int .i64 c.acts, .int .i64 c.saved, .int .i64 c.groups]) hm2
              replace hG := hG.setL (g := b2) (.inr rfl) [.int .i64 c.real, .int .i64 c.acts, .int .i64 c.saved, .int .i64 c.groups] 0
              try replace hA := hA.setL (S := fun j => j = g ∨ j = b2) (g := b2) (o := 0) (m := [.int .i64 c.real, .int .i64 c.acts, .int .i64 c.saved, .int .i64 c.groups]) (.inr rfl)
              try replace hB := hB.setL (S := fun j => j = g ∨ j = b2) (g := b2) (o := 0) (m := [.int .i64 c.real, .int .i64 c.acts, .int .i64 c.saved, .int .i64 c.groups]) (.inr rfl)
              replace hl2 := Nat.lt_of_lt_of_eq hl2 (setL_size b2 [.int .i64 c.real, .int .i64 c.acts, .int .i64 c.saved, .int .i64 c.groups] _ 0).symm
              clear hq2 hm2
              refine ⟨Keep.mk fun w' hw => hG.trans (ExcP.of_ext hw), ?_⟩
              refine WpE.now fun wn hxn _ => ?_
              replace hZ := hZ.ext hxn
              replace hG := hG.trans (ExcP.of_ext hxn)
              try replace hA := hA.ext hxn
              try replace hB := hB.ext hxn
              replace hl2 := Nat.lt_of_lt_of_le hl2 hxn.size
              clear hxn
              refine uM ?_
              refine uD ?_
              repeat (first | refine jC ?_ | refine jN ?_ | refine jS ?_ | refine jR ?_ | refine jT ?_ | refine jB ?_ | refine jX rfl ?_ | refine jY rfl ?_ | refine jK ?_ | refine jD ?_ | refine jE ?_)
              refine LdN.mk hZ rfl ?_
              repeat (first | refine jC ?_ | refine jN ?_ | refine jS ?_ | refine jR ?_ | refine jT ?_ | refine jB ?_ | refine jX rfl ?_ | refine jY rfl ?_ | refine jK ?_ | refine jD ?_ | refine jE ?_)
              exact EndV.mk fun w' hw' => ⟨c, t, rfl, hsm, ht, hB03.trans ((hG.trans (ExcP.of_ext hw')).below hB03.size (by rintro j hj (e | e) <;> omega))⟩
            · refine uE ?_
              have hm2 := MutN.of_block (o := 0) (n := 4) hq2 (by simp)
              refine ⟨hm2, trivial, rfl, by simp [Value.oneCell'], ?_⟩
              have hZ := CellsAt.setL_in (l := [.int .i64 c.real, .int .i64 c.acts, .int .i64 c.saved, .int .i64 c.groups]) hm2
              replace hG := hG.setL (g := b2) (.inr rfl) [.int .i64 c.real, .int .i64 c.acts, .int .i64 c.saved, .int .i64 c.groups] 0
              try replace hA := hA.setL (S := fun j => j = g ∨ j = b2) (g := b2) (o := 0) (m := [.int .i64 c.real, .int .i64 c.acts, .int .i64 c.saved, .int .i64 c.groups]) (.inr rfl)
              try replace hB := hB.setL (S := fun j => j = g ∨ j = b2) (g := b2) (o := 0) (m := [.int .i64 c.real, .int .i64 c.acts, .int .i64 c.saved, .int .i64 c.groups]) (.inr rfl)
              replace hl2 := Nat.lt_of_lt_of_eq hl2 (setL_size b2 [.int .i64 c.real, .int .i64 c.acts, .int .i64 c.saved, .int .i64 c.groups] _ 0).symm
              clear hq2 hm2
              refine ⟨Keep.mk fun w' hw => hG.trans (ExcP.of_ext hw), ?_⟩
              refine WpE.now fun wn hxn _ => ?_
              replace hZ := hZ.ext hxn
              replace hG := hG.trans (ExcP.of_ext hxn)
              try replace hA := hA.ext hxn
              try replace hB := hB.ext hxn
              replace hl2 := Nat.lt_of_lt_of_le hl2 hxn.size
              clear hxn
              refine uE ?_
              obtain ⟨t, ht, hti⟩ := three hi u hu0 hu1
              refine Ld.mk (hA.cells.out i _ hti) ?_
              refine ⟨Keep.mk fun w' hw => hG.trans (ExcP.of_ext hw), ?_⟩
              refine uM ?_
              refine uD ?_
              repeat (first | refine jC ?_ | refine jN ?_ | refine jS ?_ | refine jR ?_ | refine jT ?_ | refine jB ?_ | refine jX rfl ?_ | refine jY rfl ?_ | refine jK ?_ | refine jD ?_ | refine jE ?_)
              refine LdN.mk hZ rfl ?_
              repeat (first | refine jC ?_ | refine jN ?_ | refine jS ?_ | refine jR ?_ | refine jT ?_ | refine jB ?_ | refine jX rfl ?_ | refine jY rfl ?_ | refine jK ?_ | refine jD ?_ | refine jE ?_)
              exact EndV.mk fun w' hw' => ⟨c, t, rfl, hsm, ht, hB03.trans ((hG.trans (ExcP.of_ext hw')).below hB03.size (by rintro j hj (e | e) <;> omega))⟩
          · refine uE ?_
            have hm2 := MutN.of_block (o := 0) (n := 4) hq2 (by simp)
            refine ⟨hm2, trivial, rfl, by simp [Value.oneCell'], ?_⟩
            have hZ := CellsAt.setL_in (l := [.int .i64 c.real, .int .i64 c.acts, .int .i64 c.saved, .int .i64 c.groups]) hm2
            replace hG := hG.setL (g := b2) (.inr rfl) [.int .i64 c.real, .int .i64 c.acts, .int .i64 c.saved, .int .i64 c.groups] 0
            try replace hA := hA.setL (S := fun j => j = g ∨ j = b2) (g := b2) (o := 0) (m := [.int .i64 c.real, .int .i64 c.acts, .int .i64 c.saved, .int .i64 c.groups]) (.inr rfl)
            try replace hB := hB.setL (S := fun j => j = g ∨ j = b2) (g := b2) (o := 0) (m := [.int .i64 c.real, .int .i64 c.acts, .int .i64 c.saved, .int .i64 c.groups]) (.inr rfl)
            replace hl2 := Nat.lt_of_lt_of_eq hl2 (setL_size b2 [.int .i64 c.real, .int .i64 c.acts, .int .i64 c.saved, .int .i64 c.groups] _ 0).symm
            clear hq2 hm2
            refine ⟨Keep.mk fun w' hw => hG.trans (ExcP.of_ext hw), ?_⟩
            refine WpE.now fun wn hxn _ => ?_
            replace hZ := hZ.ext hxn
            replace hG := hG.trans (ExcP.of_ext hxn)
            try replace hA := hA.ext hxn
            try replace hB := hB.ext hxn
            replace hl2 := Nat.lt_of_lt_of_le hl2 hxn.size
            clear hxn
            refine uE ?_
            refine Ld.mk (hB.cells.out j _ hij) ?_
            clear hB
            refine ⟨Keep.mk fun w' hw => hG.trans (ExcP.of_ext hw), ?_⟩
            refine WpE.rdD (by exact rfl) (by exact rfl) ?_
            refine ⟨_, fun w' hw => Ix.mk i rfl (by omega) rfl, ?_⟩
            refine uE ?_
            obtain ⟨t, ht, hti⟩ := three hi u hu0 hu1
            refine Ld.mk (hA.cells.out i _ hti) ?_
            refine ⟨Keep.mk fun w' hw => hG.trans (ExcP.of_ext hw), ?_⟩
            refine uM ?_
            refine uD ?_
            repeat (first | refine jC ?_ | refine jN ?_ | refine jS ?_ | refine jR ?_ | refine jT ?_ | refine jB ?_ | refine jX rfl ?_ | refine jY rfl ?_ | refine jK ?_ | refine jD ?_ | refine jE ?_)
            refine LdN.mk hZ rfl ?_
            repeat (first | refine jC ?_ | refine jN ?_ | refine jS ?_ | refine jR ?_ | refine jT ?_ | refine jB ?_ | refine jX rfl ?_ | refine jY rfl ?_ | refine jK ?_ | refine jD ?_ | refine jE ?_)
            exact EndV.mk fun w' hw' => ⟨c, t, rfl, hsm, ht, hB03.trans ((hG.trans (ExcP.of_ext hw')).below hB03.size (by rintro j hj (e | e) <;> omega))⟩
        · refine uE ?_
          refine CallV.pick (g := g) trivial (by omega) (fun w' hw _ => pick_any g _ 7 w' (hR.below hw) (by omega) (by omega)) (fun j wq wr hxq hj hR' hg' => ?_)
          obtain ⟨i, hi, hij⟩ := seven hj
          have hX := ExcP.grown (S := fun j => j = g ∨ j = b2) (ext_grown hxq hg') (.inl rfl)
          replace hq2 := grown_blk (ext_grown hxq hg') hn2 hl2 hq2
          replace hl2 := Nat.lt_of_lt_of_le hl2 hX.size
          replace hG := hG.trans hX
          try replace hB := hB.exc hX
          try replace hA := hA.exc hX
          clear hR hR' hg' hX hxq
          refine ⟨Keep.mk fun w' hw => hG.trans (ExcP.of_ext hw), ?_⟩
          refine WpE.rdD (by exact rfl) (by exact rfl) ?_
          refine ⟨_, fun w' hw => Ix.mk j rfl (by omega) rfl, ?_⟩
          refine WpE.ef2 (by exact rfl) (by exact rfl) ?_ ?_
          · refine Made.mk fun gm wm hxm hm1 hm2 hm3 _ => ?_
            have hA := Fr.of_block (S := fun j => j = g ∨ j = b2) (cs := [.int .i64 u, .int .i64 100, .int .i64 (-1)]) hm3 hm2 (by have := hG.size; omega)
            try replace hB := hB.ext hxm
            try replace hR := hR.below hxm
            try replace hZ := hZ.ext hxm
            try replace hq2 := (hxm.block b2 hl2).trans hq2
            replace hl2 := Nat.lt_of_lt_of_le hl2 hxm.size
            replace hG := hG.trans (ExcP.of_ext hxm)
            clear hxm hm3 hm1
            refine ⟨Keep.mk fun w' hw => hG.trans (ExcP.of_ext hw), ?_⟩
            refine WpE.ef2 (by exact rfl) (by exact rfl) ?_ ?_
            · refine Ld.mk (hB.cells.out j _ hij) ?_
              clear hB
              refine ⟨Keep.mk fun w' hw => hG.trans (ExcP.of_ext hw), ?_⟩
              refine WpE.rdD (by exact rfl) (by exact rfl) ?_
              refine ⟨_, fun w' hw => Ix.mk i rfl (by omega) rfl, ?_⟩
              refine WpE.ef2 (by exact rfl) (by exact rfl) ?_ ?_
              · obtain ⟨t, ht, hti⟩ := three hi u hu0 hu1
                refine Ld.mk (hA.cells.out i _ hti) ?_
                refine ⟨Keep.mk fun w' hw => hG.trans (ExcP.of_ext hw), ?_⟩
                refine uE ?_
                have hm2 := MutN.of_block (o := 0) (n := 4) hq2 (by simp)
                refine ⟨hm2, trivial, rfl, by simp [Value.oneCell'], ?_⟩
                have hZ := CellsAt.setL_in (l := [.int .i64 c.real, .int .i64 c.acts, .int .i64 c.saved, .int .i64 c.groups]) hm2
                replace hG := hG.setL (g := b2) (.inr rfl) [.int .i64 c.real, .int .i64 c.acts, .int .i64 c.saved, .int .i64 c.groups] 0
                try replace hA := hA.setL (S := fun j => j = g ∨ j = b2) (g := b2) (o := 0) (m := [.int .i64 c.real, .int .i64 c.acts, .int .i64 c.saved, .int .i64 c.groups]) (.inr rfl)
                try replace hB := hB.setL (S := fun j => j = g ∨ j = b2) (g := b2) (o := 0) (m := [.int .i64 c.real, .int .i64 c.acts, .int .i64 c.saved, .int .i64 c.groups]) (.inr rfl)
                replace hl2 := Nat.lt_of_lt_of_eq hl2 (setL_size b2 [.int .i64 c.real, .int .i64 c.acts, .int .i64 c.saved, .int .i64 c.groups] _ 0).symm
                clear hq2 hm2
                refine ⟨Keep.mk fun w' hw => hG.trans (ExcP.of_ext hw), ?_⟩
                refine WpE.now fun wn hxn _ => ?_
                replace hZ := hZ.ext hxn
                replace hG := hG.trans (ExcP.of_ext hxn)
                try replace hA := hA.ext hxn
                try replace hB := hB.ext hxn
                replace hl2 := Nat.lt_of_lt_of_le hl2 hxn.size
                clear hxn
                refine uM ?_
                refine uD ?_
                repeat (first | refine jC ?_ | refine jN ?_ | refine jS ?_ | refine jR ?_ | refine jT ?_ | refine jB ?_ | refine jX rfl ?_ | refine jY rfl ?_ | refine jK ?_ | refine jD ?_ | refine jE ?_)
                refine LdN.mk hZ rfl ?_
                repeat (first | refine jC ?_ | refine jN ?_ | refine jS ?_ | refine jR ?_ | refine jT ?_ | refine jB ?_ | refine jX rfl ?_ | refine jY rfl ?_ | refine jK ?_ | refine jD ?_ | refine jE ?_)
                exact EndV.mk fun w' hw' => ⟨c, t, rfl, hsm, ht, hB03.trans ((hG.trans (ExcP.of_ext hw')).below hB03.size (by rintro j hj (e | e) <;> omega))⟩
              · refine uE ?_
                have hm2 := MutN.of_block (o := 0) (n := 4) hq2 (by simp)
                refine ⟨hm2, trivial, rfl, by simp [Value.oneCell'], ?_⟩
                have hZ := CellsAt.setL_in (l := [.int .i64 c.real, .int .i64 c.acts, .int .i64 c.saved, .int .i64 c.groups]) hm2
                replace hG := hG.setL (g := b2) (.inr rfl) [.int .i64 c.real, .int .i64 c.acts, .int .i64 c.saved, .int .i64 c.groups] 0
                try replace hA := hA.setL (S := fun j => j = g ∨ j = b2) (g := b2) (o := 0) (m := [.int .i64 c.real, .int .i64 c.acts, .int .i64 c.saved, .int .i64 c.groups]) (.inr rfl)
                try replace hB := hB.setL (S := fun j => j = g ∨ j = b2) (g := b2) (o := 0) (m := [.int .i64 c.real, .int .i64 c.acts, .int .i64 c.saved, .int .i64 c.groups]) (.inr rfl)
                replace hl2 := Nat.lt_of_lt_of_eq hl2 (setL_size b2 [.int .i64 c.real, .int .i64 c.acts, .int .i64 c.saved, .int .i64 c.groups] _ 0).symm
                clear hq2 hm2
                refine ⟨Keep.mk fun w' hw => hG.trans (ExcP.of_ext hw), ?_⟩
                refine WpE.now fun wn hxn _ => ?_
                replace hZ := hZ.ext hxn
                replace hG := hG.trans (ExcP.of_ext hxn)
                try replace hA := hA.ext hxn
                try replace hB := hB.ext hxn
                replace hl2 := Nat.lt_of_lt_of_le hl2 hxn.size
                clear hxn
                refine uE ?_
                obtain ⟨t, ht, hti⟩ := three hi u hu0 hu1
                refine Ld.mk (hA.cells.out i _ hti) ?_
                refine ⟨Keep.mk fun w' hw => hG.trans (ExcP.of_ext hw), ?_⟩
                refine uM ?_
                refine uD ?_
                repeat (first | refine jC ?_ | refine jN ?_ | refine jS ?_ | refine jR ?_ | refine jT ?_ | refine jB ?_ | refine jX rfl ?_ | refine jY rfl ?_ | refine jK ?_ | refine jD ?_ | refine jE ?_)
                refine LdN.mk hZ rfl ?_
                repeat (first | refine jC ?_ | refine jN ?_ | refine jS ?_ | refine jR ?_ | refine jT ?_ | refine jB ?_ | refine jX rfl ?_ | refine jY rfl ?_ | refine jK ?_ | refine jD ?_ | refine jE ?_)
                exact EndV.mk fun w' hw' => ⟨c, t, rfl, hsm, ht, hB03.trans ((hG.trans (ExcP.of_ext hw')).below hB03.size (by rintro j hj (e | e) <;> omega))⟩
            · refine uE ?_
              have hm2 := MutN.of_block (o := 0) (n := 4) hq2 (by simp)
              refine ⟨hm2, trivial, rfl, by simp [Value.oneCell'], ?_⟩
              have hZ := CellsAt.setL_in (l := [.int .i64 c.real, .int .i64 c.acts, .int .i64 c.saved, .int .i64 c.groups]) hm2
              replace hG := hG.setL (g := b2) (.inr rfl) [.int .i64 c.real, .int .i64 c.acts, .int .i64 c.saved, .int .i64 c.groups] 0
              try replace hA := hA.setL (S := fun j => j = g ∨ j = b2) (g := b2) (o := 0) (m := [.int .i64 c.real, .int .i64 c.acts, .int .i64 c.saved, .int .i64 c.groups]) (.inr rfl)
              try replace hB := hB.setL (S := fun j => j = g ∨ j = b2) (g := b2) (o := 0) (m := [.int .i64 c.real, .int .i64 c.acts, .int .i64 c.saved, .int .i64 c.groups]) (.inr rfl)
              replace hl2 := Nat.lt_of_lt_of_eq hl2 (setL_size b2 [.int .i64 c.real, .int .i64 c.acts, .int .i64 c.saved, .int .i64 c.groups] _ 0).symm
              clear hq2 hm2
              refine ⟨Keep.mk fun w' hw => hG.trans (ExcP.of_ext hw), ?_⟩
              refine WpE.now fun wn hxn _ => ?_
              replace hZ := hZ.ext hxn
              replace hG := hG.trans (ExcP.of_ext hxn)
              try replace hA := hA.ext hxn
              try replace hB := hB.ext hxn
              replace hl2 := Nat.lt_of_lt_of_le hl2 hxn.size
              clear hxn
              refine uE ?_
              refine Ld.mk (hB.cells.out j _ hij) ?_
              clear hB
              refine ⟨Keep.mk fun w' hw => hG.trans (ExcP.of_ext hw), ?_⟩
              refine WpE.rdD (by exact rfl) (by exact rfl) ?_
              refine ⟨_, fun w' hw => Ix.mk i rfl (by omega) rfl, ?_⟩
              refine uE ?_
              obtain ⟨t, ht, hti⟩ := three hi u hu0 hu1
              refine Ld.mk (hA.cells.out i _ hti) ?_
              refine ⟨Keep.mk fun w' hw => hG.trans (ExcP.of_ext hw), ?_⟩
              refine uM ?_
              refine uD ?_
              repeat (first | refine jC ?_ | refine jN ?_ | refine jS ?_ | refine jR ?_ | refine jT ?_ | refine jB ?_ | refine jX rfl ?_ | refine jY rfl ?_ | refine jK ?_ | refine jD ?_ | refine jE ?_)
              refine LdN.mk hZ rfl ?_
              repeat (first | refine jC ?_ | refine jN ?_ | refine jS ?_ | refine jR ?_ | refine jT ?_ | refine jB ?_ | refine jX rfl ?_ | refine jY rfl ?_ | refine jK ?_ | refine jD ?_ | refine jE ?_)
              exact EndV.mk fun w' hw' => ⟨c, t, rfl, hsm, ht, hB03.trans ((hG.trans (ExcP.of_ext hw')).below hB03.size (by rintro j hj (e | e) <;> omega))⟩
          · refine WpE.ef2 (by exact rfl) (by exact rfl) ?_ ?_
            · refine Ld.mk (hB.cells.out j _ hij) ?_
              clear hB
              refine ⟨Keep.mk fun w' hw => hG.trans (ExcP.of_ext hw), ?_⟩
              refine WpE.ef2 (by exact rfl) (by exact rfl) ?_ ?_
              · refine Made.mk fun gm wm hxm hm1 hm2 hm3 _ => ?_
                have hA := Fr.of_block (S := fun j => j = g ∨ j = b2) (cs := [.int .i64 u, .int .i64 100, .int .i64 (-1)]) hm3 hm2 (by have := hG.size; omega)
                try replace hB := hB.ext hxm
                try replace hR := hR.below hxm
                try replace hZ := hZ.ext hxm
                try replace hq2 := (hxm.block b2 hl2).trans hq2
                replace hl2 := Nat.lt_of_lt_of_le hl2 hxm.size
                replace hG := hG.trans (ExcP.of_ext hxm)
                clear hxm hm3 hm1
                refine ⟨Keep.mk fun w' hw => hG.trans (ExcP.of_ext hw), ?_⟩
                refine WpE.rdD (by exact rfl) (by exact rfl) ?_
                refine ⟨_, fun w' hw => Ix.mk i rfl (by omega) rfl, ?_⟩
                refine WpE.ef2 (by exact rfl) (by exact rfl) ?_ ?_
                · obtain ⟨t, ht, hti⟩ := three hi u hu0 hu1
                  refine Ld.mk (hA.cells.out i _ hti) ?_
                  refine ⟨Keep.mk fun w' hw => hG.trans (ExcP.of_ext hw), ?_⟩
                  refine uE ?_
                  have hm2 := MutN.of_block (o := 0) (n := 4) hq2 (by simp)
                  refine ⟨hm2, trivial, rfl, by simp [Value.oneCell'], ?_⟩
                  have hZ := CellsAt.setL_in (l := [.int .i64 c.real, .int .i64 c.acts, .int .i64 c.saved, .int .i64 c.groups]) hm2
                  replace hG := hG.setL (g := b2) (.inr rfl) [.int .i64 c.real, .int .i64 c.acts, .int .i64 c.saved, .int .i64 c.groups] 0
                  try replace hA := hA.setL (S := fun j => j = g ∨ j = b2) (g := b2) (o := 0) (m := [.int .i64 c.real, .int .i64 c.acts, .int .i64 c.saved, .int .i64 c.groups]) (.inr rfl)
                  try replace hB := hB.setL (S := fun j => j = g ∨ j = b2) (g := b2) (o := 0) (m := [.int .i64 c.real, .int .i64 c.acts, .int .i64 c.saved, .int .i64 c.groups]) (.inr rfl)
                  replace hl2 := Nat.lt_of_lt_of_eq hl2 (setL_size b2 [.int .i64 c.real, .int .i64 c.acts, .int .i64 c.saved, .int .i64 c.groups] _ 0).symm
                  clear hq2 hm2
                  refine ⟨Keep.mk fun w' hw => hG.trans (ExcP.of_ext hw), ?_⟩
                  refine WpE.now fun wn hxn _ => ?_
                  replace hZ := hZ.ext hxn
                  replace hG := hG.trans (ExcP.of_ext hxn)
                  try replace hA := hA.ext hxn
                  try replace hB := hB.ext hxn
                  replace hl2 := Nat.lt_of_lt_of_le hl2 hxn.size
                  clear hxn
                  refine uM ?_
                  refine uD ?_
                  repeat (first | refine jC ?_ | refine jN ?_ | refine jS ?_ | refine jR ?_ | refine jT ?_ | refine jB ?_ | refine jX rfl ?_ | refine jY rfl ?_ | refine jK ?_ | refine jD ?_ | refine jE ?_)
                  refine LdN.mk hZ rfl ?_
                  repeat (first | refine jC ?_ | refine jN ?_ | refine jS ?_ | refine jR ?_ | refine jT ?_ | refine jB ?_ | refine jX rfl ?_ | refine jY rfl ?_ | refine jK ?_ | refine jD ?_ | refine jE ?_)
                  exact EndV.mk fun w' hw' => ⟨c, t, rfl, hsm, ht, hB03.trans ((hG.trans (ExcP.of_ext hw')).below hB03.size (by rintro j hj (e | e) <;> omega))⟩
                · refine uE ?_
                  have hm2 := MutN.of_block (o := 0) (n := 4) hq2 (by simp)
                  refine ⟨hm2, trivial, rfl, by simp [Value.oneCell'], ?_⟩
                  have hZ := CellsAt.setL_in (l := [.int .i64 c.real, .int .i64 c.acts, .int .i64 c.saved, .int .i64 c.groups]) hm2
                  replace hG := hG.setL (g := b2) (.inr rfl) [.int .i64 c.real, .int .i64 c.acts, .int .i64 c.saved, .int .i64 c.groups] 0
                  try replace hA := hA.setL (S := fun j => j = g ∨ j = b2) (g := b2) (o := 0) (m := [.int .i64 c.real, .int .i64 c.acts, .int .i64 c.saved, .int .i64 c.groups]) (.inr rfl)
                  try replace hB := hB.setL (S := fun j => j = g ∨ j = b2) (g := b2) (o := 0) (m := [.int .i64 c.real, .int .i64 c.acts, .int .i64 c.saved, .int .i64 c.groups]) (.inr rfl)
                  replace hl2 := Nat.lt_of_lt_of_eq hl2 (setL_size b2 [.int .i64 c.real, .int .i64 c.acts, .int .i64 c.saved, .int .i64 c.groups] _ 0).symm
                  clear hq2 hm2
                  refine ⟨Keep.mk fun w' hw => hG.trans (ExcP.of_ext hw), ?_⟩
                  refine WpE.now fun wn hxn _ => ?_
                  replace hZ := hZ.ext hxn
                  replace hG := hG.trans (ExcP.of_ext hxn)
                  try replace hA := hA.ext hxn
                  try replace hB := hB.ext hxn
                  replace hl2 := Nat.lt_of_lt_of_le hl2 hxn.size
                  clear hxn
                  refine uE ?_
                  obtain ⟨t, ht, hti⟩ := three hi u hu0 hu1
                  refine Ld.mk (hA.cells.out i _ hti) ?_
                  refine ⟨Keep.mk fun w' hw => hG.trans (ExcP.of_ext hw), ?_⟩
                  refine uM ?_
                  refine uD ?_
                  repeat (first | refine jC ?_ | refine jN ?_ | refine jS ?_ | refine jR ?_ | refine jT ?_ | refine jB ?_ | refine jX rfl ?_ | refine jY rfl ?_ | refine jK ?_ | refine jD ?_ | refine jE ?_)
                  refine LdN.mk hZ rfl ?_
                  repeat (first | refine jC ?_ | refine jN ?_ | refine jS ?_ | refine jR ?_ | refine jT ?_ | refine jB ?_ | refine jX rfl ?_ | refine jY rfl ?_ | refine jK ?_ | refine jD ?_ | refine jE ?_)
                  exact EndV.mk fun w' hw' => ⟨c, t, rfl, hsm, ht, hB03.trans ((hG.trans (ExcP.of_ext hw')).below hB03.size (by rintro j hj (e | e) <;> omega))⟩
              · refine uE ?_
                have hm2 := MutN.of_block (o := 0) (n := 4) hq2 (by simp)
                refine ⟨hm2, trivial, rfl, by simp [Value.oneCell'], ?_⟩
                have hZ := CellsAt.setL_in (l := [.int .i64 c.real, .int .i64 c.acts, .int .i64 c.saved, .int .i64 c.groups]) hm2
                replace hG := hG.setL (g := b2) (.inr rfl) [.int .i64 c.real, .int .i64 c.acts, .int .i64 c.saved, .int .i64 c.groups] 0
                try replace hA := hA.setL (S := fun j => j = g ∨ j = b2) (g := b2) (o := 0) (m := [.int .i64 c.real, .int .i64 c.acts, .int .i64 c.saved, .int .i64 c.groups]) (.inr rfl)
                try replace hB := hB.setL (S := fun j => j = g ∨ j = b2) (g := b2) (o := 0) (m := [.int .i64 c.real, .int .i64 c.acts, .int .i64 c.saved, .int .i64 c.groups]) (.inr rfl)
                replace hl2 := Nat.lt_of_lt_of_eq hl2 (setL_size b2 [.int .i64 c.real, .int .i64 c.acts, .int .i64 c.saved, .int .i64 c.groups] _ 0).symm
                clear hq2 hm2
                refine ⟨Keep.mk fun w' hw => hG.trans (ExcP.of_ext hw), ?_⟩
                refine WpE.now fun wn hxn _ => ?_
                replace hZ := hZ.ext hxn
                replace hG := hG.trans (ExcP.of_ext hxn)
                try replace hA := hA.ext hxn
                try replace hB := hB.ext hxn
                replace hl2 := Nat.lt_of_lt_of_le hl2 hxn.size
                clear hxn
                refine uE ?_
                refine Made.mk fun gm wm hxm hm1 hm2 hm3 _ => ?_
                have hA := Fr.of_block (S := fun j => j = g ∨ j = b2) (cs := [.int .i64 u, .int .i64 100, .int .i64 (-1)]) hm3 hm2 (by have := hG.size; omega)
                try replace hB := hB.ext hxm
                try replace hR := hR.below hxm
                try replace hZ := hZ.ext hxm
                try replace hq2 := (hxm.block b2 hl2).trans hq2
                replace hl2 := Nat.lt_of_lt_of_le hl2 hxm.size
                replace hG := hG.trans (ExcP.of_ext hxm)
                clear hxm hm3 hm1
                refine ⟨Keep.mk fun w' hw => hG.trans (ExcP.of_ext hw), ?_⟩
                refine WpE.rdD (by exact rfl) (by exact rfl) ?_
                refine ⟨_, fun w' hw => Ix.mk i rfl (by omega) rfl, ?_⟩
                refine uE ?_
                obtain ⟨t, ht, hti⟩ := three hi u hu0 hu1
                refine Ld.mk (hA.cells.out i _ hti) ?_
                refine ⟨Keep.mk fun w' hw => hG.trans (ExcP.of_ext hw), ?_⟩
                refine uM ?_
                refine uD ?_
                repeat (first | refine jC ?_ | refine jN ?_ | refine jS ?_ | refine jR ?_ | refine jT ?_ | refine jB ?_ | refine jX rfl ?_ | refine jY rfl ?_ | refine jK ?_ | refine jD ?_ | refine jE ?_)
                refine LdN.mk hZ rfl ?_
                repeat (first | refine jC ?_ | refine jN ?_ | refine jS ?_ | refine jR ?_ | refine jT ?_ | refine jB ?_ | refine jX rfl ?_ | refine jY rfl ?_ | refine jK ?_ | refine jD ?_ | refine jE ?_)
                exact EndV.mk fun w' hw' => ⟨c, t, rfl, hsm, ht, hB03.trans ((hG.trans (ExcP.of_ext hw')).below hB03.size (by rintro j hj (e | e) <;> omega))⟩
            · refine uE ?_
              have hm2 := MutN.of_block (o := 0) (n := 4) hq2 (by simp)
              refine ⟨hm2, trivial, rfl, by simp [Value.oneCell'], ?_⟩
              have hZ := CellsAt.setL_in (l := [.int .i64 c.real, .int .i64 c.acts, .int .i64 c.saved, .int .i64 c.groups]) hm2
              replace hG := hG.setL (g := b2) (.inr rfl) [.int .i64 c.real, .int .i64 c.acts, .int .i64 c.saved, .int .i64 c.groups] 0
              try replace hA := hA.setL (S := fun j => j = g ∨ j = b2) (g := b2) (o := 0) (m := [.int .i64 c.real, .int .i64 c.acts, .int .i64 c.saved, .int .i64 c.groups]) (.inr rfl)
              try replace hB := hB.setL (S := fun j => j = g ∨ j = b2) (g := b2) (o := 0) (m := [.int .i64 c.real, .int .i64 c.acts, .int .i64 c.saved, .int .i64 c.groups]) (.inr rfl)
              replace hl2 := Nat.lt_of_lt_of_eq hl2 (setL_size b2 [.int .i64 c.real, .int .i64 c.acts, .int .i64 c.saved, .int .i64 c.groups] _ 0).symm
              clear hq2 hm2
              refine ⟨Keep.mk fun w' hw => hG.trans (ExcP.of_ext hw), ?_⟩
              refine WpE.now fun wn hxn _ => ?_
              replace hZ := hZ.ext hxn
              replace hG := hG.trans (ExcP.of_ext hxn)
              try replace hA := hA.ext hxn
              try replace hB := hB.ext hxn
              replace hl2 := Nat.lt_of_lt_of_le hl2 hxn.size
              clear hxn
              refine WpE.ef2 (by exact rfl) (by exact rfl) ?_ ?_
              · refine Made.mk fun gm wm hxm hm1 hm2 hm3 _ => ?_
                have hA := Fr.of_block (S := fun j => j = g ∨ j = b2) (cs := [.int .i64 u, .int .i64 100, .int .i64 (-1)]) hm3 hm2 (by have := hG.size; omega)
                try replace hB := hB.ext hxm
                try replace hR := hR.below hxm
                try replace hZ := hZ.ext hxm
                try replace hq2 := (hxm.block b2 hl2).trans hq2
                replace hl2 := Nat.lt_of_lt_of_le hl2 hxm.size
                replace hG := hG.trans (ExcP.of_ext hxm)
                clear hxm hm3 hm1
                refine ⟨Keep.mk fun w' hw => hG.trans (ExcP.of_ext hw), ?_⟩
                refine uE ?_
                refine Ld.mk (hB.cells.out j _ hij) ?_
                clear hB
                refine ⟨Keep.mk fun w' hw => hG.trans (ExcP.of_ext hw), ?_⟩
                refine WpE.rdD (by exact rfl) (by exact rfl) ?_
                refine ⟨_, fun w' hw => Ix.mk i rfl (by omega) rfl, ?_⟩
                refine uE ?_
                obtain ⟨t, ht, hti⟩ := three hi u hu0 hu1
                refine Ld.mk (hA.cells.out i _ hti) ?_
                refine ⟨Keep.mk fun w' hw => hG.trans (ExcP.of_ext hw), ?_⟩
                refine uM ?_
                refine uD ?_
                repeat (first | refine jC ?_ | refine jN ?_ | refine jS ?_ | refine jR ?_ | refine jT ?_ | refine jB ?_ | refine jX rfl ?_ | refine jY rfl ?_ | refine jK ?_ | refine jD ?_ | refine jE ?_)
                refine LdN.mk hZ rfl ?_
                repeat (first | refine jC ?_ | refine jN ?_ | refine jS ?_ | refine jR ?_ | refine jT ?_ | refine jB ?_ | refine jX rfl ?_ | refine jY rfl ?_ | refine jK ?_ | refine jD ?_ | refine jE ?_)
                exact EndV.mk fun w' hw' => ⟨c, t, rfl, hsm, ht, hB03.trans ((hG.trans (ExcP.of_ext hw')).below hB03.size (by rintro j hj (e | e) <;> omega))⟩
              · refine uE ?_
                refine Ld.mk (hB.cells.out j _ hij) ?_
                clear hB
                refine ⟨Keep.mk fun w' hw => hG.trans (ExcP.of_ext hw), ?_⟩
                refine uE ?_
                refine Made.mk fun gm wm hxm hm1 hm2 hm3 _ => ?_
                have hA := Fr.of_block (S := fun j => j = g ∨ j = b2) (cs := [.int .i64 u, .int .i64 100, .int .i64 (-1)]) hm3 hm2 (by have := hG.size; omega)
                try replace hB := hB.ext hxm
                try replace hR := hR.below hxm
                try replace hZ := hZ.ext hxm
                try replace hq2 := (hxm.block b2 hl2).trans hq2
                replace hl2 := Nat.lt_of_lt_of_le hl2 hxm.size
                replace hG := hG.trans (ExcP.of_ext hxm)
                clear hxm hm3 hm1
                refine ⟨Keep.mk fun w' hw => hG.trans (ExcP.of_ext hw), ?_⟩
                refine WpE.rdD (by exact rfl) (by exact rfl) ?_
                refine ⟨_, fun w' hw => Ix.mk i rfl (by omega) rfl, ?_⟩
                refine uE ?_
                obtain ⟨t, ht, hti⟩ := three hi u hu0 hu1
                refine Ld.mk (hA.cells.out i _ hti) ?_
                refine ⟨Keep.mk fun w' hw => hG.trans (ExcP.of_ext hw), ?_⟩
                refine uM ?_
                refine uD ?_
                repeat (first | refine jC ?_ | refine jN ?_ | refine jS ?_ | refine jR ?_ | refine jT ?_ | refine jB ?_ | refine jX rfl ?_ | refine jY rfl ?_ | refine jK ?_ | refine jD ?_ | refine jE ?_)
                refine LdN.mk hZ rfl ?_
                repeat (first | refine jC ?_ | refine jN ?_ | refine jS ?_ | refine jR ?_ | refine jT ?_ | refine jB ?_ | refine jX rfl ?_ | refine jY rfl ?_ | refine jK ?_ | refine jD ?_ | refine jE ?_)
                exact EndV.mk fun w' hw' => ⟨c, t, rfl, hsm, ht, hB03.trans ((hG.trans (ExcP.of_ext hw')).below hB03.size (by rintro j hj (e | e) <;> omega))⟩
      · refine uE ?_
        refine CallV.pick (g := g) trivial (by omega) (fun w' hw _ => pick_any g _ 7 w' (hR.below hw) (by omega) (by omega)) (fun j wq wr hxq hj hR' hg' => ?_)
        obtain ⟨i, hi, hij⟩ := seven hj
        have hX := ExcP.grown (S := fun j => j = g ∨ j = b2) (ext_grown hxq hg') (.inl rfl)
        replace hq2 := grown_blk (ext_grown hxq hg') hn2 hl2 hq2
        replace hl2 := Nat.lt_of_lt_of_le hl2 hX.size
        replace hG := hG.trans hX
        try replace hB := hB.exc hX
        try replace hA := hA.exc hX
        clear hR hR' hg' hX hxq
        refine ⟨Keep.mk fun w' hw => hG.trans (ExcP.of_ext hw), ?_⟩
        refine WpE.ef2 (by exact rfl) (by exact rfl) ?_ ?_
        · refine Made.mk fun gm wm hxm hm1 hm2 hm3 _ => ?_
          have hA := Fr.of_block (S := fun j => j = g ∨ j = b2) (cs := [.int .i64 u, .int .i64 100, .int .i64 (-1)]) hm3 hm2 (by have := hG.size; omega)
          try replace hB := hB.ext hxm
          try replace hR := hR.below hxm
          try replace hZ := hZ.ext hxm
          try replace hq2 := (hxm.block b2 hl2).trans hq2
          replace hl2 := Nat.lt_of_lt_of_le hl2 hxm.size
          replace hG := hG.trans (ExcP.of_ext hxm)
          clear hxm hm3 hm1
          refine ⟨Keep.mk fun w' hw => hG.trans (ExcP.of_ext hw), ?_⟩
          refine WpE.ef2 (by exact rfl) (by exact rfl) ?_ ?_
          · refine Made.mk fun gm wm hxm hm1 hm2 hm3 _ => ?_
            have hB := Fr.of_block (S := fun j => j = g ∨ j = b2) (cs := [.int .i64 0, .int .i64 0, .int .i64 0, .int .i64 0, .int .i64 0, .int .i64 1, .int .i64 2]) hm3 hm2 (by have := hG.size; omega)
            try replace hA := hA.ext hxm
            try replace hR := hR.below hxm
            try replace hZ := hZ.ext hxm
            try replace hq2 := (hxm.block b2 hl2).trans hq2
            replace hl2 := Nat.lt_of_lt_of_le hl2 hxm.size
            replace hG := hG.trans (ExcP.of_ext hxm)
            clear hxm hm3 hm1
            refine ⟨Keep.mk fun w' hw => hG.trans (ExcP.of_ext hw), ?_⟩
            refine WpE.rdD (by exact rfl) (by exact rfl) ?_
            refine ⟨_, fun w' hw => Ix.mk j rfl (by omega) rfl, ?_⟩
            refine WpE.ef2 (by exact rfl) (by exact rfl) ?_ ?_
            · refine Ld.mk (hB.cells.out j _ hij) ?_
              clear hB
              refine ⟨Keep.mk fun w' hw => hG.trans (ExcP.of_ext hw), ?_⟩
              refine WpE.rdD (by exact rfl) (by exact rfl) ?_
              refine ⟨_, fun w' hw => Ix.mk i rfl (by omega) rfl, ?_⟩
              refine WpE.ef2 (by exact rfl) (by exact rfl) ?_ ?_
              · obtain ⟨t, ht, hti⟩ := three hi u hu0 hu1
                refine Ld.mk (hA.cells.out i _ hti) ?_
                refine ⟨Keep.mk fun w' hw => hG.trans (ExcP.of_ext hw), ?_⟩
                refine uE ?_
                have hm2 := MutN.of_block (o := 0) (n := 4) hq2 (by simp)
                refine ⟨hm2, trivial, rfl, by simp [Value.oneCell'], ?_⟩
                have hZ := CellsAt.setL_in (l := [.int .i64 c.real, .int .i64 c.acts, .int .i64 c.saved, .int .i64 c.groups]) hm2
                replace hG := hG.setL (g := b2) (.inr rfl) [.int .i64 c.real, .int .i64 c.acts, .int .i64 c.saved, .int .i64 c.groups] 0
                try replace hA := hA.setL (S := fun j => j = g ∨ j = b2) (g := b2) (o := 0) (m := [.int .i64 c.real, .int .i64 c.acts, .int .i64 c.saved, .int .i64 c.groups]) (.inr rfl)
                try replace hB := hB.setL (S := fun j => j = g ∨ j = b2) (g := b2) (o := 0) (m := [.int .i64 c.real, .int .i64 c.acts, .int .i64 c.saved, .int .i64 c.groups]) (.inr rfl)
                replace hl2 := Nat.lt_of_lt_of_eq hl2 (setL_size b2 [.int .i64 c.real, .int .i64 c.acts, .int .i64 c.saved, .int .i64 c.groups] _ 0).symm
                clear hq2 hm2
                refine ⟨Keep.mk fun w' hw => hG.trans (ExcP.of_ext hw), ?_⟩
                refine WpE.now fun wn hxn _ => ?_
                replace hZ := hZ.ext hxn
                replace hG := hG.trans (ExcP.of_ext hxn)
                try replace hA := hA.ext hxn
                try replace hB := hB.ext hxn
                replace hl2 := Nat.lt_of_lt_of_le hl2 hxn.size
                clear hxn
                refine uM ?_
                refine uD ?_
                repeat (first | refine jC ?_ | refine jN ?_ | refine jS ?_ | refine jR ?_ | refine jT ?_ | refine jB ?_ | refine jX rfl ?_ | refine jY rfl ?_ | refine jK ?_ | refine jD ?_ | refine jE ?_)
                refine LdN.mk hZ rfl ?_
                repeat (first | refine jC ?_ | refine jN ?_ | refine jS ?_ | refine jR ?_ | refine jT ?_ | refine jB ?_ | refine jX rfl ?_ | refine jY rfl ?_ | refine jK ?_ | refine jD ?_ | refine jE ?_)
                exact EndV.mk fun w' hw' => ⟨c, t, rfl, hsm, ht, hB03.trans ((hG.trans (ExcP.of_ext hw')).below hB03.size (by rintro j hj (e | e) <;> omega))⟩
              · refine uE ?_
                have hm2 := MutN.of_block (o := 0) (n := 4) hq2 (by simp)
                refine ⟨hm2, trivial, rfl, by simp [Value.oneCell'], ?_⟩
                have hZ := CellsAt.setL_in (l := [.int .i64 c.real, .int .i64 c.acts, .int .i64 c.saved, .int .i64 c.groups]) hm2
                replace hG := hG.setL (g := b2) (.inr rfl) [.int .i64 c.real, .int .i64 c.acts, .int .i64 c.saved, .int .i64 c.groups] 0
                try replace hA := hA.setL (S := fun j => j = g ∨ j = b2) (g := b2) (o := 0) (m := [.int .i64 c.real, .int .i64 c.acts, .int .i64 c.saved, .int .i64 c.groups]) (.inr rfl)
                try replace hB := hB.setL (S := fun j => j = g ∨ j = b2) (g := b2) (o := 0) (m := [.int .i64 c.real, .int .i64 c.acts, .int .i64 c.saved, .int .i64 c.groups]) (.inr rfl)
                replace hl2 := Nat.lt_of_lt_of_eq hl2 (setL_size b2 [.int .i64 c.real, .int .i64 c.acts, .int .i64 c.saved, .int .i64 c.groups] _ 0).symm
                clear hq2 hm2
                refine ⟨Keep.mk fun w' hw => hG.trans (ExcP.of_ext hw), ?_⟩
                refine WpE.now fun wn hxn _ => ?_
                replace hZ := hZ.ext hxn
                replace hG := hG.trans (ExcP.of_ext hxn)
                try replace hA := hA.ext hxn
                try replace hB := hB.ext hxn
                replace hl2 := Nat.lt_of_lt_of_le hl2 hxn.size
                clear hxn
                refine uE ?_
                obtain ⟨t, ht, hti⟩ := three hi u hu0 hu1
                refine Ld.mk (hA.cells.out i _ hti) ?_
                refine ⟨Keep.mk fun w' hw => hG.trans (ExcP.of_ext hw), ?_⟩
                refine uM ?_
                refine uD ?_
                repeat (first | refine jC ?_ | refine jN ?_ | refine jS ?_ | refine jR ?_ | refine jT ?_ | refine jB ?_ | refine jX rfl ?_ | refine jY rfl ?_ | refine jK ?_ | refine jD ?_ | refine jE ?_)
                refine LdN.mk hZ rfl ?_
                repeat (first | refine jC ?_ | refine jN ?_ | refine jS ?_ | refine jR ?_ | refine jT ?_ | refine jB ?_ | refine jX rfl ?_ | refine jY rfl ?_ | refine jK ?_ | refine jD ?_ | refine jE ?_)
                exact EndV.mk fun w' hw' => ⟨c, t, rfl, hsm, ht, hB03.trans ((hG.trans (ExcP.of_ext hw')).below hB03.size (by rintro j hj (e | e) <;> omega))⟩
            · refine uE ?_
              have hm2 := MutN.of_block (o := 0) (n := 4) hq2 (by simp)
              refine ⟨hm2, trivial, rfl, by simp [Value.oneCell'], ?_⟩
              have hZ := CellsAt.setL_in (l := [.int .i64 c.real, .int .i64 c.acts, .int .i64 c.saved, .int .i64 c.groups]) hm2
              replace hG := hG.setL (g := b2) (.inr rfl) [.int .i64 c.real, .int .i64 c.acts, .int .i64 c.saved, .int .i64 c.groups] 0
              try replace hA := hA.setL (S := fun j => j = g ∨ j = b2) (g := b2) (o := 0) (m := [.int .i64 c.real, .int .i64 c.acts, .int .i64 c.saved, .int .i64 c.groups]) (.inr rfl)
              try replace hB := hB.setL (S := fun j => j = g ∨ j = b2) (g := b2) (o := 0) (m := [.int .i64 c.real, .int .i64 c.acts, .int .i64 c.saved, .int .i64 c.groups]) (.inr rfl)
              replace hl2 := Nat.lt_of_lt_of_eq hl2 (setL_size b2 [.int .i64 c.real, .int .i64 c.acts, .int .i64 c.saved, .int .i64 c.groups] _ 0).symm
              clear hq2 hm2
              refine ⟨Keep.mk fun w' hw => hG.trans (ExcP.of_ext hw), ?_⟩
              refine WpE.now fun wn hxn _ => ?_
              replace hZ := hZ.ext hxn
              replace hG := hG.trans (ExcP.of_ext hxn)
              try replace hA := hA.ext hxn
              try replace hB := hB.ext hxn
              replace hl2 := Nat.lt_of_lt_of_le hl2 hxn.size
              clear hxn
              refine uE ?_
              refine Ld.mk (hB.cells.out j _ hij) ?_
              clear hB
              refine ⟨Keep.mk fun w' hw => hG.trans (ExcP.of_ext hw), ?_⟩
              refine WpE.rdD (by exact rfl) (by exact rfl) ?_
              refine ⟨_, fun w' hw => Ix.mk i rfl (by omega) rfl, ?_⟩
              refine uE ?_
              obtain ⟨t, ht, hti⟩ := three hi u hu0 hu1
              refine Ld.mk (hA.cells.out i _ hti) ?_
              refine ⟨Keep.mk fun w' hw => hG.trans (ExcP.of_ext hw), ?_⟩
              refine uM ?_
              refine uD ?_
              repeat (first | refine jC ?_ | refine jN ?_ | refine jS ?_ | refine jR ?_ | refine jT ?_ | refine jB ?_ | refine jX rfl ?_ | refine jY rfl ?_ | refine jK ?_ | refine jD ?_ | refine jE ?_)
              refine LdN.mk hZ rfl ?_
              repeat (first | refine jC ?_ | refine jN ?_ | refine jS ?_ | refine jR ?_ | refine jT ?_ | refine jB ?_ | refine jX rfl ?_ | refine jY rfl ?_ | refine jK ?_ | refine jD ?_ | refine jE ?_)
              exact EndV.mk fun w' hw' => ⟨c, t, rfl, hsm, ht, hB03.trans ((hG.trans (ExcP.of_ext hw')).below hB03.size (by rintro j hj (e | e) <;> omega))⟩
          · refine uE ?_
            have hm2 := MutN.of_block (o := 0) (n := 4) hq2 (by simp)
            refine ⟨hm2, trivial, rfl, by simp [Value.oneCell'], ?_⟩
            have hZ := CellsAt.setL_in (l := [.int .i64 c.real, .int .i64 c.acts, .int .i64 c.saved, .int .i64 c.groups]) hm2
            replace hG := hG.setL (g := b2) (.inr rfl) [.int .i64 c.real, .int .i64 c.acts, .int .i64 c.saved, .int .i64 c.groups] 0
            try replace hA := hA.setL (S := fun j => j = g ∨ j = b2) (g := b2) (o := 0) (m := [.int .i64 c.real, .int .i64 c.acts, .int .i64 c.saved, .int .i64 c.groups]) (.inr rfl)
            try replace hB := hB.setL (S := fun j => j = g ∨ j = b2) (g := b2) (o := 0) (m := [.int .i64 c.real, .int .i64 c.acts, .int .i64 c.saved, .int .i64 c.groups]) (.inr rfl)
            replace hl2 := Nat.lt_of_lt_of_eq hl2 (setL_size b2 [.int .i64 c.real, .int .i64 c.acts, .int .i64 c.saved, .int .i64 c.groups] _ 0).symm
            clear hq2 hm2
            refine ⟨Keep.mk fun w' hw => hG.trans (ExcP.of_ext hw), ?_⟩
            refine WpE.now fun wn hxn _ => ?_
            replace hZ := hZ.ext hxn
            replace hG := hG.trans (ExcP.of_ext hxn)
            try replace hA := hA.ext hxn
            try replace hB := hB.ext hxn
            replace hl2 := Nat.lt_of_lt_of_le hl2 hxn.size
            clear hxn
            refine uE ?_
            refine Made.mk fun gm wm hxm hm1 hm2 hm3 _ => ?_
            have hB := Fr.of_block (S := fun j => j = g ∨ j = b2) (cs := [.int .i64 0, .int .i64 0, .int .i64 0, .int .i64 0, .int .i64 0, .int .i64 1, .int .i64 2]) hm3 hm2 (by have := hG.size; omega)
            try replace hA := hA.ext hxm
            try replace hR := hR.below hxm
            try replace hZ := hZ.ext hxm
            try replace hq2 := (hxm.block b2 hl2).trans hq2
            replace hl2 := Nat.lt_of_lt_of_le hl2 hxm.size
            replace hG := hG.trans (ExcP.of_ext hxm)
            clear hxm hm3 hm1
            refine ⟨Keep.mk fun w' hw => hG.trans (ExcP.of_ext hw), ?_⟩
            refine WpE.rdD (by exact rfl) (by exact rfl) ?_
            refine ⟨_, fun w' hw => Ix.mk j rfl (by omega) rfl, ?_⟩
            refine uE ?_
            refine Ld.mk (hB.cells.out j _ hij) ?_
            clear hB
            refine ⟨Keep.mk fun w' hw => hG.trans (ExcP.of_ext hw), ?_⟩
            refine WpE.rdD (by exact rfl) (by exact rfl) ?_
            refine ⟨_, fun w' hw => Ix.mk i rfl (by omega) rfl, ?_⟩
            refine uE ?_
            obtain ⟨t, ht, hti⟩ := three hi u hu0 hu1
            refine Ld.mk (hA.cells.out i _ hti) ?_
            refine ⟨Keep.mk fun w' hw => hG.trans (ExcP.of_ext hw), ?_⟩
            refine uM ?_
            refine uD ?_
            repeat (first | refine jC ?_ | refine jN ?_ | refine jS ?_ | refine jR ?_ | refine jT ?_ | refine jB ?_ | refine jX rfl ?_ | refine jY rfl ?_ | refine jK ?_ | refine jD ?_ | refine jE ?_)
            refine LdN.mk hZ rfl ?_
            repeat (first | refine jC ?_ | refine jN ?_ | refine jS ?_ | refine jR ?_ | refine jT ?_ | refine jB ?_ | refine jX rfl ?_ | refine jY rfl ?_ | refine jK ?_ | refine jD ?_ | refine jE ?_)
            exact EndV.mk fun w' hw' => ⟨c, t, rfl, hsm, ht, hB03.trans ((hG.trans (ExcP.of_ext hw')).below hB03.size (by rintro j hj (e | e) <;> omega))⟩
        · refine WpE.ef2 (by exact rfl) (by exact rfl) ?_ ?_
          · refine Made.mk fun gm wm hxm hm1 hm2 hm3 _ => ?_
            have hB := Fr.of_block (S := fun j => j = g ∨ j = b2) (cs := [.int .i64 0, .int .i64 0, .int .i64 0, .int .i64 0, .int .i64 0, .int .i64 1, .int .i64 2]) hm3 hm2 (by have := hG.size; omega)
            try replace hA := hA.ext hxm
            try replace hR := hR.below hxm
            try replace hZ := hZ.ext hxm
            try replace hq2 := (hxm.block b2 hl2).trans hq2
            replace hl2 := Nat.lt_of_lt_of_le hl2 hxm.size
            replace hG := hG.trans (ExcP.of_ext hxm)
            clear hxm hm3 hm1
            refine ⟨Keep.mk fun w' hw => hG.trans (ExcP.of_ext hw), ?_⟩
            refine WpE.rdD (by exact rfl) (by exact rfl) ?_
            refine ⟨_, fun w' hw => Ix.mk j rfl (by omega) rfl, ?_⟩
            refine WpE.ef2 (by exact rfl) (by exact rfl) ?_ ?_
            · refine Made.mk fun gm wm hxm hm1 hm2 hm3 _ => ?_
              have hA := Fr.of_block (S := fun j => j = g ∨ j = b2) (cs := [.int .i64 u, .int .i64 100, .int .i64 (-1)]) hm3 hm2 (by have := hG.size; omega)
              try replace hB := hB.ext hxm
              try replace hR := hR.below hxm
              try replace hZ := hZ.ext hxm
              try replace hq2 := (hxm.block b2 hl2).trans hq2
              replace hl2 := Nat.lt_of_lt_of_le hl2 hxm.size
              replace hG := hG.trans (ExcP.of_ext hxm)
              clear hxm hm3 hm1
              refine ⟨Keep.mk fun w' hw => hG.trans (ExcP.of_ext hw), ?_⟩
              refine WpE.ef2 (by exact rfl) (by exact rfl) ?_ ?_
              · refine Ld.mk (hB.cells.out j _ hij) ?_
                clear hB
                refine ⟨Keep.mk fun w' hw => hG.trans (ExcP.of_ext hw), ?_⟩
                refine WpE.rdD (by exact rfl) (by exact rfl) ?_
                refine ⟨_, fun w' hw => Ix.mk i rfl (by omega) rfl, ?_⟩
                refine WpE.ef2 (by exact rfl) (by exact rfl) ?_ ?_
                · obtain ⟨t, ht, hti⟩ := three hi u hu0 hu1
                  refine Ld.mk (hA.cells.out i _ hti) ?_
                  refine ⟨Keep.mk fun w' hw => hG.trans (ExcP.of_ext hw), ?_⟩
                  refine uE ?_
                  have hm2 := MutN.of_block (o := 0) (n := 4) hq2 (by simp)
                  refine ⟨hm2, trivial, rfl, by simp [Value.oneCell'], ?_⟩
                  have hZ := CellsAt.setL_in (l := [.int .i64 c.real, .int .i64 c.acts, .int .i64 c.saved, .int .i64 c.groups]) hm2
                  replace hG := hG.setL (g := b2) (.inr rfl) [.int .i64 c.real, .int .i64 c.acts, .int .i64 c.saved, .int .i64 c.groups] 0
                  try replace hA := hA.setL (S := fun j => j = g ∨ j = b2) (g := b2) (o := 0) (m := [.int .i64 c.real, .int .i64 c.acts, .int .i64 c.saved, .int .i64 c.groups]) (.inr rfl)
                  try replace hB := hB.setL (S := fun j => j = g ∨ j = b2) (g := b2) (o := 0) (m := [.int .i64 c.real, .int .i64 c.acts, .int .i64 c.saved, .int .i64 c.groups]) (.inr rfl)
                  replace hl2 := Nat.lt_of_lt_of_eq hl2 (setL_size b2 [.int .i64 c.real, .int .i64 c.acts, .int .i64 c.saved, .int .i64 c.groups] _ 0).symm
                  clear hq2 hm2
                  refine ⟨Keep.mk fun w' hw => hG.trans (ExcP.of_ext hw), ?_⟩
                  refine WpE.now fun wn hxn _ => ?_
                  replace hZ := hZ.ext hxn
                  replace hG := hG.trans (ExcP.of_ext hxn)
                  try replace hA := hA.ext hxn
                  try replace hB := hB.ext hxn
                  replace hl2 := Nat.lt_of_lt_of_le hl2 hxn.size
                  clear hxn
                  refine uM ?_
                  refine uD ?_
                  repeat (first | refine jC ?_ | refine jN ?_ | refine jS ?_ | refine jR ?_ | refine jT ?_ | refine jB ?_ | refine jX rfl ?_ | refine jY rfl ?_ | refine jK ?_ | refine jD ?_ | refine jE ?_)
                  refine LdN.mk hZ rfl ?_
                  repeat (first | refine jC ?_ | refine jN ?_ | refine jS ?_ | refine jR ?_ | refine jT ?_ | refine jB ?_ | refine jX rfl ?_ | refine jY rfl ?_ | refine jK ?_ | refine jD ?_ | refine jE ?_)
                  exact EndV.mk fun w' hw' => ⟨c, t, rfl, hsm, ht, hB03.trans ((hG.trans (ExcP.of_ext hw')).below hB03.size (by rintro j hj (e | e) <;> omega))⟩
                · refine uE ?_
                  have hm2 := MutN.of_block (o := 0) (n := 4) hq2 (by simp)
                  refine ⟨hm2, trivial, rfl, by simp [Value.oneCell'], ?_⟩
                  have hZ := CellsAt.setL_in (l := [.int .i64 c.real, .int .i64 c.acts, .int .i64 c.saved, .int .i64 c.groups]) hm2
                  replace hG := hG.setL (g := b2) (.inr rfl) [.int .i64 c.real, .int .i64 c.acts, .int .i64 c.saved, .int .i64 c.groups] 0
                  try replace hA := hA.setL (S := fun j => j = g ∨ j = b2) (g := b2) (o := 0) (m := [.int .i64 c.real, .int .i64 c.acts, .int .i64 c.saved, .int .i64 c.groups]) (.inr rfl)
                  try replace hB := hB.setL (S := fun j => j = g ∨ j = b2) (g := b2) (o := 0) (m := [.int .i64 c.real, .int .i64 c.acts, .int .i64 c.saved, .int .i64 c.groups]) (.inr rfl)
                  replace hl2 := Nat.lt_of_lt_of_eq hl2 (setL_size b2 [.int .i64 c.real, .int .i64 c.acts, .int .i64 c.saved, .int .i64 c.groups] _ 0).symm
                  clear hq2 hm2
                  refine ⟨Keep.mk fun w' hw => hG.trans (ExcP.of_ext hw), ?_⟩
                  refine WpE.now fun wn hxn _ => ?_
                  replace hZ := hZ.ext hxn
                  replace hG := hG.trans (ExcP.of_ext hxn)
                  try replace hA := hA.ext hxn
                  try replace hB := hB.ext hxn
                  replace hl2 := Nat.lt_of_lt_of_le hl2 hxn.size
                  clear hxn
                  refine uE ?_
                  obtain ⟨t, ht, hti⟩ := three hi u hu0 hu1
                  refine Ld.mk (hA.cells.out i _ hti) ?_
                  refine ⟨Keep.mk fun w' hw => hG.trans (ExcP.of_ext hw), ?_⟩
                  refine uM ?_
                  refine uD ?_
                  repeat (first | refine jC ?_ | refine jN ?_ | refine jS ?_ | refine jR ?_ | refine jT ?_ | refine jB ?_ | refine jX rfl ?_ | refine jY rfl ?_ | refine jK ?_ | refine jD ?_ | refine jE ?_)
                  refine LdN.mk hZ rfl ?_
                  repeat (first | refine jC ?_ | refine jN ?_ | refine jS ?_ | refine jR ?_ | refine jT ?_ | refine jB ?_ | refine jX rfl ?_ | refine jY rfl ?_ | refine jK ?_ | refine jD ?_ | refine jE ?_)
                  exact EndV.mk fun w' hw' => ⟨c, t, rfl, hsm, ht, hB03.trans ((hG.trans (ExcP.of_ext hw')).below hB03.size (by rintro j hj (e | e) <;> omega))⟩
              · refine uE ?_
                have hm2 := MutN.of_block (o := 0) (n := 4) hq2 (by simp)
                refine ⟨hm2, trivial, rfl, by simp [Value.oneCell'], ?_⟩
                have hZ := CellsAt.setL_in (l := [.int .i64 c.real, .int .i64 c.acts, .int .i64 c.saved, .int .i64 c.groups]) hm2
                replace hG := hG.setL (g := b2) (.inr rfl) [.int .i64 c.real, .int .i64 c.acts, .int .i64 c.saved, .int .i64 c.groups] 0
                try replace hA := hA.setL (S := fun j => j = g ∨ j = b2) (g := b2) (o := 0) (m := [.int .i64 c.real, .int .i64 c.acts, .int .i64 c.saved, .int .i64 c.groups]) (.inr rfl)
                try replace hB := hB.setL (S := fun j => j = g ∨ j = b2) (g := b2) (o := 0) (m := [.int .i64 c.real, .int .i64 c.acts, .int .i64 c.saved, .int .i64 c.groups]) (.inr rfl)
                replace hl2 := Nat.lt_of_lt_of_eq hl2 (setL_size b2 [.int .i64 c.real, .int .i64 c.acts, .int .i64 c.saved, .int .i64 c.groups] _ 0).symm
                clear hq2 hm2
                refine ⟨Keep.mk fun w' hw => hG.trans (ExcP.of_ext hw), ?_⟩
                refine WpE.now fun wn hxn _ => ?_
                replace hZ := hZ.ext hxn
                replace hG := hG.trans (ExcP.of_ext hxn)
                try replace hA := hA.ext hxn
                try replace hB := hB.ext hxn
                replace hl2 := Nat.lt_of_lt_of_le hl2 hxn.size
                clear hxn
                refine uE ?_
                refine Ld.mk (hB.cells.out j _ hij) ?_
                clear hB
                refine ⟨Keep.mk fun w' hw => hG.trans (ExcP.of_ext hw), ?_⟩
                refine WpE.rdD (by exact rfl) (by exact rfl) ?_
                refine ⟨_, fun w' hw => Ix.mk i rfl (by omega) rfl, ?_⟩
                refine uE ?_
                obtain ⟨t, ht, hti⟩ := three hi u hu0 hu1
                refine Ld.mk (hA.cells.out i _ hti) ?_
                refine ⟨Keep.mk fun w' hw => hG.trans (ExcP.of_ext hw), ?_⟩
                refine uM ?_
                refine uD ?_
                repeat (first | refine jC ?_ | refine jN ?_ | refine jS ?_ | refine jR ?_ | refine jT ?_ | refine jB ?_ | refine jX rfl ?_ | refine jY rfl ?_ | refine jK ?_ | refine jD ?_ | refine jE ?_)
                refine LdN.mk hZ rfl ?_
                repeat (first | refine jC ?_ | refine jN ?_ | refine jS ?_ | refine jR ?_ | refine jT ?_ | refine jB ?_ | refine jX rfl ?_ | refine jY rfl ?_ | refine jK ?_ | refine jD ?_ | refine jE ?_)
                exact EndV.mk fun w' hw' => ⟨c, t, rfl, hsm, ht, hB03.trans ((hG.trans (ExcP.of_ext hw')).below hB03.size (by rintro j hj (e | e) <;> omega))⟩
            · refine WpE.ef2 (by exact rfl) (by exact rfl) ?_ ?_
              · refine Ld.mk (hB.cells.out j _ hij) ?_
                clear hB
                refine ⟨Keep.mk fun w' hw => hG.trans (ExcP.of_ext hw), ?_⟩
                refine WpE.ef2 (by exact rfl) (by exact rfl) ?_ ?_
                · refine Made.mk fun gm wm hxm hm1 hm2 hm3 _ => ?_
                  have hA := Fr.of_block (S := fun j => j = g ∨ j = b2) (cs := [.int .i64 u, .int .i64 100, .int .i64 (-1)]) hm3 hm2 (by have := hG.size; omega)
                  try replace hB := hB.ext hxm
                  try replace hR := hR.below hxm
                  try replace hZ := hZ.ext hxm
                  try replace hq2 := (hxm.block b2 hl2).trans hq2
                  replace hl2 := Nat.lt_of_lt_of_le hl2 hxm.size
                  replace hG := hG.trans (ExcP.of_ext hxm)
                  clear hxm hm3 hm1
                  refine ⟨Keep.mk fun w' hw => hG.trans (ExcP.of_ext hw), ?_⟩
                  refine WpE.rdD (by exact rfl) (by exact rfl) ?_
                  refine ⟨_, fun w' hw => Ix.mk i rfl (by omega) rfl, ?_⟩
                  refine WpE.ef2 (by exact rfl) (by exact rfl) ?_ ?_
                  · obtain ⟨t, ht, hti⟩ := three hi u hu0 hu1
                    refine Ld.mk (hA.cells.out i _ hti) ?_
                    refine ⟨Keep.mk fun w' hw => hG.trans (ExcP.of_ext hw), ?_⟩
                    refine uE ?_
                    have hm2 := MutN.of_block (o := 0) (n := 4) hq2 (by simp)
                    refine ⟨hm2, trivial, rfl, by simp [Value.oneCell'], ?_⟩
                    have hZ := CellsAt.setL_in (l := [.int .i64 c.real, .int .i64 c.acts, .int .i64 c.saved, .int .i64 c.groups]) hm2
                    replace hG := hG.setL (g := b2) (.inr rfl) [.int .i64 c.real, .int .i64 c.acts, .int .i64 c.saved, .int .i64 c.groups] 0
                    try replace hA := hA.setL (S := fun j => j = g ∨ j = b2) (g := b2) (o := 0) (m := [.int .i64 c.real, .int .i64 c.acts, .int .i64 c.saved, .int .i64 c.groups]) (.inr rfl)
                    try replace hB := hB.setL (S := fun j => j = g ∨ j = b2) (g := b2) (o := 0) (m := [.int .i64 c.real, .int .i64 c.acts, .int .i64 c.saved, .int .i64 c.groups]) (.inr rfl)
                    replace hl2 := Nat.lt_of_lt_of_eq hl2 (setL_size b2 [.int .i64 c.real, .int .i64 c.acts, .int .i64 c.saved, .int .i64 c.groups] _ 0).symm
                    clear hq2 hm2
                    refine ⟨Keep.mk fun w' hw => hG.trans (ExcP.of_ext hw), ?_⟩
                    refine WpE.now fun wn hxn _ => ?_
                    replace hZ := hZ.ext hxn
                    replace hG := hG.trans (ExcP.of_ext hxn)
                    try replace hA := hA.ext hxn
                    try replace hB := hB.ext hxn
                    replace hl2 := Nat.lt_of_lt_of_le hl2 hxn.size
                    clear hxn
                    refine uM ?_
                    refine uD ?_
                    repeat (first | refine jC ?_ | refine jN ?_ | refine jS ?_ | refine jR ?_ | refine jT ?_ | refine jB ?_ | refine jX rfl ?_ | refine jY rfl ?_ | refine jK ?_ | refine jD ?_ | refine jE ?_)
                    refine LdN.mk hZ rfl ?_
                    repeat (first | refine jC ?_ | refine jN ?_ | refine jS ?_ | refine jR ?_ | refine jT ?_ | refine jB ?_ | refine jX rfl ?_ | refine jY rfl ?_ | refine jK ?_ | refine jD ?_ | refine jE ?_)
                    exact EndV.mk fun w' hw' => ⟨c, t, rfl, hsm, ht, hB03.trans ((hG.trans (ExcP.of_ext hw')).below hB03.size (by rintro j hj (e | e) <;> omega))⟩
                  · refine uE ?_
                    have hm2 := MutN.of_block (o := 0) (n := 4) hq2 (by simp)
                    refine ⟨hm2, trivial, rfl, by simp [Value.oneCell'], ?_⟩
                    have hZ := CellsAt.setL_in (l := [.int .i64 c.real, .int .i64 c.acts, .int .i64 c.saved, .int .i64 c.groups]) hm2
                    replace hG := hG.setL (g := b2) (.inr rfl) [.int .i64 c.real, .int .i64 c.acts, .int .i64 c.saved, .int .i64 c.groups] 0
                    try replace hA := hA.setL (S := fun j => j = g ∨ j = b2) (g := b2) (o := 0) (m := [.int .i64 c.real, .int .i64 c.acts, .int .i64 c.saved, .int .i64 c.groups]) (.inr rfl)
                    try replace hB := hB.setL (S := fun j => j = g ∨ j = b2) (g := b2) (o := 0) (m := [.int .i64 c.real, .int .i64 c.acts, .int .i64 c.saved, .int .i64 c.groups]) (.inr rfl)
                    replace hl2 := Nat.lt_of_lt_of_eq hl2 (setL_size b2 [.int .i64 c.real, .int .i64 c.acts, .int .i64 c.saved, .int .i64 c.groups] _ 0).symm
                    clear hq2 hm2
                    refine ⟨Keep.mk fun w' hw => hG.trans (ExcP.of_ext hw), ?_⟩
                    refine WpE.now fun wn hxn _ => ?_
                    replace hZ := hZ.ext hxn
                    replace hG := hG.trans (ExcP.of_ext hxn)
                    try replace hA := hA.ext hxn
                    try replace hB := hB.ext hxn
                    replace hl2 := Nat.lt_of_lt_of_le hl2 hxn.size
                    clear hxn
                    refine uE ?_
                    obtain ⟨t, ht, hti⟩ := three hi u hu0 hu1
                    refine Ld.mk (hA.cells.out i _ hti) ?_
                    refine ⟨Keep.mk fun w' hw => hG.trans (ExcP.of_ext hw), ?_⟩
                    refine uM ?_
                    refine uD ?_
                    repeat (first | refine jC ?_ | refine jN ?_ | refine jS ?_ | refine jR ?_ | refine jT ?_ | refine jB ?_ | refine jX rfl ?_ | refine jY rfl ?_ | refine jK ?_ | refine jD ?_ | refine jE ?_)
                    refine LdN.mk hZ rfl ?_
                    repeat (first | refine jC ?_ | refine jN ?_ | refine jS ?_ | refine jR ?_ | refine jT ?_ | refine jB ?_ | refine jX rfl ?_ | refine jY rfl ?_ | refine jK ?_ | refine jD ?_ | refine jE ?_)
                    exact EndV.mk fun w' hw' => ⟨c, t, rfl, hsm, ht, hB03.trans ((hG.trans (ExcP.of_ext hw')).below hB03.size (by rintro j hj (e | e) <;> omega))⟩
                · refine uE ?_
                  have hm2 := MutN.of_block (o := 0) (n := 4) hq2 (by simp)
                  refine ⟨hm2, trivial, rfl, by simp [Value.oneCell'], ?_⟩
                  have hZ := CellsAt.setL_in (l := [.int .i64 c.real, .int .i64 c.acts, .int .i64 c.saved, .int .i64 c.groups]) hm2
                  replace hG := hG.setL (g := b2) (.inr rfl) [.int .i64 c.real, .int .i64 c.acts, .int .i64 c.saved, .int .i64 c.groups] 0
                  try replace hA := hA.setL (S := fun j => j = g ∨ j = b2) (g := b2) (o := 0) (m := [.int .i64 c.real, .int .i64 c.acts, .int .i64 c.saved, .int .i64 c.groups]) (.inr rfl)
                  try replace hB := hB.setL (S := fun j => j = g ∨ j = b2) (g := b2) (o := 0) (m := [.int .i64 c.real, .int .i64 c.acts, .int .i64 c.saved, .int .i64 c.groups]) (.inr rfl)
                  replace hl2 := Nat.lt_of_lt_of_eq hl2 (setL_size b2 [.int .i64 c.real, .int .i64 c.acts, .int .i64 c.saved, .int .i64 c.groups] _ 0).symm
                  clear hq2 hm2
                  refine ⟨Keep.mk fun w' hw => hG.trans (ExcP.of_ext hw), ?_⟩
                  refine WpE.now fun wn hxn _ => ?_
                  replace hZ := hZ.ext hxn
                  replace hG := hG.trans (ExcP.of_ext hxn)
                  try replace hA := hA.ext hxn
                  try replace hB := hB.ext hxn
                  replace hl2 := Nat.lt_of_lt_of_le hl2 hxn.size
                  clear hxn
                  refine uE ?_
                  refine Made.mk fun gm wm hxm hm1 hm2 hm3 _ => ?_
                  have hA := Fr.of_block (S := fun j => j = g ∨ j = b2) (cs := [.int .i64 u, .int .i64 100, .int .i64 (-1)]) hm3 hm2 (by have := hG.size; omega)
                  try replace hB := hB.ext hxm
                  try replace hR := hR.below hxm
                  try replace hZ := hZ.ext hxm
                  try replace hq2 := (hxm.block b2 hl2).trans hq2
                  replace hl2 := Nat.lt_of_lt_of_le hl2 hxm.size
                  replace hG := hG.trans (ExcP.of_ext hxm)
                  clear hxm hm3 hm1
                  refine ⟨Keep.mk fun w' hw => hG.trans (ExcP.of_ext hw), ?_⟩
                  refine WpE.rdD (by exact rfl) (by exact rfl) ?_
                  refine ⟨_, fun w' hw => Ix.mk i rfl (by omega) rfl, ?_⟩
                  refine uE ?_
                  obtain ⟨t, ht, hti⟩ := three hi u hu0 hu1
                  refine Ld.mk (hA.cells.out i _ hti) ?_
                  refine ⟨Keep.mk fun w' hw => hG.trans (ExcP.of_ext hw), ?_⟩
                  refine uM ?_
                  refine uD ?_
                  repeat (first | refine jC ?_ | refine jN ?_ | refine jS ?_ | refine jR ?_ | refine jT ?_ | refine jB ?_ | refine jX rfl ?_ | refine jY rfl ?_ | refine jK ?_ | refine jD ?_ | refine jE ?_)
                  refine LdN.mk hZ rfl ?_
                  repeat (first | refine jC ?_ | refine jN ?_ | refine jS ?_ | refine jR ?_ | refine jT ?_ | refine jB ?_ | refine jX rfl ?_ | refine jY rfl ?_ | refine jK ?_ | refine jD ?_ | refine jE ?_)
                  exact EndV.mk fun w' hw' => ⟨c, t, rfl, hsm, ht, hB03.trans ((hG.trans (ExcP.of_ext hw')).below hB03.size (by rintro j hj (e | e) <;> omega))⟩
              · refine uE ?_
                have hm2 := MutN.of_block (o := 0) (n := 4) hq2 (by simp)
                refine ⟨hm2, trivial, rfl, by simp [Value.oneCell'], ?_⟩
                have hZ := CellsAt.setL_in (l := [.int .i64 c.real, .int .i64 c.acts, .int .i64 c.saved, .int .i64 c.groups]) hm2
                replace hG := hG.setL (g := b2) (.inr rfl) [.int .i64 c.real, .int .i64 c.acts, .int .i64 c.saved, .int .i64 c.groups] 0
                try replace hA := hA.setL (S := fun j => j = g ∨ j = b2) (g := b2) (o := 0) (m := [.int .i64 c.real, .int .i64 c.acts, .int .i64 c.saved, .int .i64 c.groups]) (.inr rfl)
                try replace hB := hB.setL (S := fun j => j = g ∨ j = b2) (g := b2) (o := 0) (m := [.int .i64 c.real, .int .i64 c.acts, .int .i64 c.saved, .int .i64 c.groups]) (.inr rfl)
                replace hl2 := Nat.lt_of_lt_of_eq hl2 (setL_size b2 [.int .i64 c.real, .int .i64 c.acts, .int .i64 c.saved, .int .i64 c.groups] _ 0).symm
                clear hq2 hm2
                refine ⟨Keep.mk fun w' hw => hG.trans (ExcP.of_ext hw), ?_⟩
                refine WpE.now fun wn hxn _ => ?_
                replace hZ := hZ.ext hxn
                replace hG := hG.trans (ExcP.of_ext hxn)
                try replace hA := hA.ext hxn
                try replace hB := hB.ext hxn
                replace hl2 := Nat.lt_of_lt_of_le hl2 hxn.size
                clear hxn
                refine WpE.ef2 (by exact rfl) (by exact rfl) ?_ ?_
                · refine Made.mk fun gm wm hxm hm1 hm2 hm3 _ => ?_
                  have hA := Fr.of_block (S := fun j => j = g ∨ j = b2) (cs := [.int .i64 u, .int .i64 100, .int .i64 (-1)]) hm3 hm2 (by have := hG.size; omega)
                  try replace hB := hB.ext hxm
                  try replace hR := hR.below hxm
                  try replace hZ := hZ.ext hxm
                  try replace hq2 := (hxm.block b2 hl2).trans hq2
                  replace hl2 := Nat.lt_of_lt_of_le hl2 hxm.size
                  replace hG := hG.trans (ExcP.of_ext hxm)
                  clear hxm hm3 hm1
                  refine ⟨Keep.mk fun w' hw => hG.trans (ExcP.of_ext hw), ?_⟩
                  refine uE ?_
                  refine Ld.mk (hB.cells.out j _ hij) ?_
                  clear hB
                  refine ⟨Keep.mk fun w' hw => hG.trans (ExcP.of_ext hw), ?_⟩
                  refine WpE.rdD (by exact rfl) (by exact rfl) ?_
                  refine ⟨_, fun w' hw => Ix.mk i rfl (by omega) rfl, ?_⟩
                  refine uE ?_
                  obtain ⟨t, ht, hti⟩ := three hi u hu0 hu1
                  refine Ld.mk (hA.cells.out i _ hti) ?_
                  refine ⟨Keep.mk fun w' hw => hG.trans (ExcP.of_ext hw), ?_⟩
                  refine uM ?_
                  refine uD ?_
                  repeat (first | refine jC ?_ | refine jN ?_ | refine jS ?_ | refine jR ?_ | refine jT ?_ | refine jB ?_ | refine jX rfl ?_ | refine jY rfl ?_ | refine jK ?_ | refine jD ?_ | refine jE ?_)
                  refine LdN.mk hZ rfl ?_
                  repeat (first | refine jC ?_ | refine jN ?_ | refine jS ?_ | refine jR ?_ | refine jT ?_ | refine jB ?_ | refine jX rfl ?_ | refine jY rfl ?_ | refine jK ?_ | refine jD ?_ | refine jE ?_)
                  exact EndV.mk fun w' hw' => ⟨c, t, rfl, hsm, ht, hB03.trans ((hG.trans (ExcP.of_ext hw')).below hB03.size (by rintro j hj (e | e) <;> omega))⟩
                · refine uE ?_
                  refine Ld.mk (hB.cells.out j _ hij) ?_
                  clear hB
                  refine ⟨Keep.mk fun w' hw => hG.trans (ExcP.of_ext hw), ?_⟩
                  refine uE ?_
                  refine Made.mk fun gm wm hxm hm1 hm2 hm3 _ => ?_
                  have hA := Fr.of_block (S := fun j => j = g ∨ j = b2) (cs := [.int .i64 u, .int .i64 100, .int .i64 (-1)]) hm3 hm2 (by have := hG.size; omega)
                  try replace hB := hB.ext hxm
                  try replace hR := hR.below hxm
                  try replace hZ := hZ.ext hxm
                  try replace hq2 := (hxm.block b2 hl2).trans hq2
                  replace hl2 := Nat.lt_of_lt_of_le hl2 hxm.size
                  replace hG := hG.trans (ExcP.of_ext hxm)
                  clear hxm hm3 hm1
                  refine ⟨Keep.mk fun w' hw => hG.trans (ExcP.of_ext hw), ?_⟩
                  refine WpE.rdD (by exact rfl) (by exact rfl) ?_
                  refine ⟨_, fun w' hw => Ix.mk i rfl (by omega) rfl, ?_⟩
                  refine uE ?_
                  obtain ⟨t, ht, hti⟩ := three hi u hu0 hu1
                  refine Ld.mk (hA.cells.out i _ hti) ?_
                  refine ⟨Keep.mk fun w' hw => hG.trans (ExcP.of_ext hw), ?_⟩
                  refine uM ?_
                  refine uD ?_
                  repeat (first | refine jC ?_ | refine jN ?_ | refine jS ?_ | refine jR ?_ | refine jT ?_ | refine jB ?_ | refine jX rfl ?_ | refine jY rfl ?_ | refine jK ?_ | refine jD ?_ | refine jE ?_)
                  refine LdN.mk hZ rfl ?_
                  repeat (first | refine jC ?_ | refine jN ?_ | refine jS ?_ | refine jR ?_ | refine jT ?_ | refine jB ?_ | refine jX rfl ?_ | refine jY rfl ?_ | refine jK ?_ | refine jD ?_ | refine jE ?_)
                  exact EndV.mk fun w' hw' => ⟨c, t, rfl, hsm, ht, hB03.trans ((hG.trans (ExcP.of_ext hw')).below hB03.size (by rintro j hj (e | e) <;> omega))⟩
          · refine uE ?_
            have hm2 := MutN.of_block (o := 0) (n := 4) hq2 (by simp)
            refine ⟨hm2, trivial, rfl, by simp [Value.oneCell'], ?_⟩
            have hZ := CellsAt.setL_in (l := [.int .i64 c.real, .int .i64 c.acts, .int .i64 c.saved, .int .i64 c.groups]) hm2
            replace hG := hG.setL (g := b2) (.inr rfl) [.int .i64 c.real, .int .i64 c.acts, .int .i64 c.saved, .int .i64 c.groups] 0
            try replace hA := hA.setL (S := fun j => j = g ∨ j = b2) (g := b2) (o := 0) (m := [.int .i64 c.real, .int .i64 c.acts, .int .i64 c.saved, .int .i64 c.groups]) (.inr rfl)
            try replace hB := hB.setL (S := fun j => j = g ∨ j = b2) (g := b2) (o := 0) (m := [.int .i64 c.real, .int .i64 c.acts, .int .i64 c.saved, .int .i64 c.groups]) (.inr rfl)
            replace hl2 := Nat.lt_of_lt_of_eq hl2 (setL_size b2 [.int .i64 c.real, .int .i64 c.acts, .int .i64 c.saved, .int .i64 c.groups] _ 0).symm
            clear hq2 hm2
            refine ⟨Keep.mk fun w' hw => hG.trans (ExcP.of_ext hw), ?_⟩
            refine WpE.now fun wn hxn _ => ?_
            replace hZ := hZ.ext hxn
            replace hG := hG.trans (ExcP.of_ext hxn)
            try replace hA := hA.ext hxn
            try replace hB := hB.ext hxn
            replace hl2 := Nat.lt_of_lt_of_le hl2 hxn.size
            clear hxn
            refine WpE.ef2 (by exact rfl) (by exact rfl) ?_ ?_
            · refine Made.mk fun gm wm hxm hm1 hm2 hm3 _ => ?_
              have hA := Fr.of_block (S := fun j => j = g ∨ j = b2) (cs := [.int .i64 u, .int .i64 100, .int .i64 (-1)]) hm3 hm2 (by have := hG.size; omega)
              try replace hB := hB.ext hxm
              try replace hR := hR.below hxm
              try replace hZ := hZ.ext hxm
              try replace hq2 := (hxm.block b2 hl2).trans hq2
              replace hl2 := Nat.lt_of_lt_of_le hl2 hxm.size
              replace hG := hG.trans (ExcP.of_ext hxm)
              clear hxm hm3 hm1
              refine ⟨Keep.mk fun w' hw => hG.trans (ExcP.of_ext hw), ?_⟩
              refine uE ?_
              refine Made.mk fun gm wm hxm hm1 hm2 hm3 _ => ?_
              have hB := Fr.of_block (S := fun j => j = g ∨ j = b2) (cs := [.int .i64 0, .int .i64 0, .int .i64 0, .int .i64 0, .int .i64 0, .int .i64 1, .int .i64 2]) hm3 hm2 (by have := hG.size; omega)
              try replace hA := hA.ext hxm
              try replace hR := hR.below hxm
              try replace hZ := hZ.ext hxm
              try replace hq2 := (hxm.block b2 hl2).trans hq2
              replace hl2 := Nat.lt_of_lt_of_le hl2 hxm.size
              replace hG := hG.trans (ExcP.of_ext hxm)
              clear hxm hm3 hm1
              refine ⟨Keep.mk fun w' hw => hG.trans (ExcP.of_ext hw), ?_⟩
              refine WpE.rdD (by exact rfl) (by exact rfl) ?_
              refine ⟨_, fun w' hw => Ix.mk j rfl (by omega) rfl, ?_⟩
              refine uE ?_
              refine Ld.mk (hB.cells.out j _ hij) ?_
              clear hB
              refine ⟨Keep.mk fun w' hw => hG.trans (ExcP.of_ext hw), ?_⟩
              refine WpE.rdD (by exact rfl) (by exact rfl) ?_
              refine ⟨_, fun w' hw => Ix.mk i rfl (by omega) rfl, ?_⟩
              refine uE ?_
              obtain ⟨t, ht, hti⟩ := three hi u hu0 hu1
              refine Ld.mk (hA.cells.out i _ hti) ?_
              refine ⟨Keep.mk fun w' hw => hG.trans (ExcP.of_ext hw), ?_⟩
              refine uM ?_
              refine uD ?_
              repeat (first | refine jC ?_ | refine jN ?_ | refine jS ?_ | refine jR ?_ | refine jT ?_ | refine jB ?_ | refine jX rfl ?_ | refine jY rfl ?_ | refine jK ?_ | refine jD ?_ | refine jE ?_)
              refine LdN.mk hZ rfl ?_
              repeat (first | refine jC ?_ | refine jN ?_ | refine jS ?_ | refine jR ?_ | refine jT ?_ | refine jB ?_ | refine jX rfl ?_ | refine jY rfl ?_ | refine jK ?_ | refine jD ?_ | refine jE ?_)
              exact EndV.mk fun w' hw' => ⟨c, t, rfl, hsm, ht, hB03.trans ((hG.trans (ExcP.of_ext hw')).below hB03.size (by rintro j hj (e | e) <;> omega))⟩
            · refine uE ?_
              refine Made.mk fun gm wm hxm hm1 hm2 hm3 _ => ?_
              have hB := Fr.of_block (S := fun j => j = g ∨ j = b2) (cs := [.int .i64 0, .int .i64 0, .int .i64 0, .int .i64 0, .int .i64 0, .int .i64 1, .int .i64 2]) hm3 hm2 (by have := hG.size; omega)
              try replace hA := hA.ext hxm
              try replace hR := hR.below hxm
              try replace hZ := hZ.ext hxm
              try replace hq2 := (hxm.block b2 hl2).trans hq2
              replace hl2 := Nat.lt_of_lt_of_le hl2 hxm.size
              replace hG := hG.trans (ExcP.of_ext hxm)
              clear hxm hm3 hm1
              refine ⟨Keep.mk fun w' hw => hG.trans (ExcP.of_ext hw), ?_⟩
              refine WpE.rdD (by exact rfl) (by exact rfl) ?_
              refine ⟨_, fun w' hw => Ix.mk j rfl (by omega) rfl, ?_⟩
              refine WpE.ef2 (by exact rfl) (by exact rfl) ?_ ?_
              · refine Made.mk fun gm wm hxm hm1 hm2 hm3 _ => ?_
                have hA := Fr.of_block (S := fun j => j = g ∨ j = b2) (cs := [.int .i64 u, .int .i64 100, .int .i64 (-1)]) hm3 hm2 (by have := hG.size; omega)
                try replace hB := hB.ext hxm
                try replace hR := hR.below hxm
                try replace hZ := hZ.ext hxm
                try replace hq2 := (hxm.block b2 hl2).trans hq2
                replace hl2 := Nat.lt_of_lt_of_le hl2 hxm.size
                replace hG := hG.trans (ExcP.of_ext hxm)
                clear hxm hm3 hm1
                refine ⟨Keep.mk fun w' hw => hG.trans (ExcP.of_ext hw), ?_⟩
                refine uE ?_
                refine Ld.mk (hB.cells.out j _ hij) ?_
                clear hB
                refine ⟨Keep.mk fun w' hw => hG.trans (ExcP.of_ext hw), ?_⟩
                refine WpE.rdD (by exact rfl) (by exact rfl) ?_
                refine ⟨_, fun w' hw => Ix.mk i rfl (by omega) rfl, ?_⟩
                refine uE ?_
                obtain ⟨t, ht, hti⟩ := three hi u hu0 hu1
                refine Ld.mk (hA.cells.out i _ hti) ?_
                refine ⟨Keep.mk fun w' hw => hG.trans (ExcP.of_ext hw), ?_⟩
                refine uM ?_
                refine uD ?_
                repeat (first | refine jC ?_ | refine jN ?_ | refine jS ?_ | refine jR ?_ | refine jT ?_ | refine jB ?_ | refine jX rfl ?_ | refine jY rfl ?_ | refine jK ?_ | refine jD ?_ | refine jE ?_)
                refine LdN.mk hZ rfl ?_
                repeat (first | refine jC ?_ | refine jN ?_ | refine jS ?_ | refine jR ?_ | refine jT ?_ | refine jB ?_ | refine jX rfl ?_ | refine jY rfl ?_ | refine jK ?_ | refine jD ?_ | refine jE ?_)
                exact EndV.mk fun w' hw' => ⟨c, t, rfl, hsm, ht, hB03.trans ((hG.trans (ExcP.of_ext hw')).below hB03.size (by rintro j hj (e | e) <;> omega))⟩
              · refine uE ?_
                refine Ld.mk (hB.cells.out j _ hij) ?_
                clear hB
                refine ⟨Keep.mk fun w' hw => hG.trans (ExcP.of_ext hw), ?_⟩
                refine uE ?_
                refine Made.mk fun gm wm hxm hm1 hm2 hm3 _ => ?_
                have hA := Fr.of_block (S := fun j => j = g ∨ j = b2) (cs := [.int .i64 u, .int .i64 100, .int .i64 (-1)]) hm3 hm2 (by have := hG.size; omega)
                try replace hB := hB.ext hxm
                try replace hR := hR.below hxm
                try replace hZ := hZ.ext hxm
                try replace hq2 := (hxm.block b2 hl2).trans hq2
                replace hl2 := Nat.lt_of_lt_of_le hl2 hxm.size
                replace hG := hG.trans (ExcP.of_ext hxm)
                clear hxm hm3 hm1
                refine ⟨Keep.mk fun w' hw => hG.trans (ExcP.of_ext hw), ?_⟩
                refine WpE.rdD (by exact rfl) (by exact rfl) ?_
                refine ⟨_, fun w' hw => Ix.mk i rfl (by omega) rfl, ?_⟩
                refine uE ?_
                obtain ⟨t, ht, hti⟩ := three hi u hu0 hu1
                refine Ld.mk (hA.cells.out i _ hti) ?_
                refine ⟨Keep.mk fun w' hw => hG.trans (ExcP.of_ext hw), ?_⟩
                refine uM ?_
                refine uD ?_
                repeat (first | refine jC ?_ | refine jN ?_ | refine jS ?_ | refine jR ?_ | refine jT ?_ | refine jB ?_ | refine jX rfl ?_ | refine jY rfl ?_ | refine jK ?_ | refine jD ?_ | refine jE ?_)
                refine LdN.mk hZ rfl ?_
                repeat (first | refine jC ?_ | refine jN ?_ | refine jS ?_ | refine jR ?_ | refine jT ?_ | refine jB ?_ | refine jX rfl ?_ | refine jY rfl ?_ | refine jK ?_ | refine jD ?_ | refine jE ?_)
                exact EndV.mk fun w' hw' => ⟨c, t, rfl, hsm, ht, hB03.trans ((hG.trans (ExcP.of_ext hw')).below hB03.size (by rintro j hj (e | e) <;> omega))⟩
  · refine uE ?_
    refine Made.mk fun gm wm hxm hm1 hm2 hm3 _ => ?_
    have hB := Fr.of_block (S := fun j => j = g ∨ j = b2) (cs := [.int .i64 0, .int .i64 0, .int .i64 0, .int .i64 0, .int .i64 0, .int .i64 1, .int .i64 2]) hm3 hm2 (by have := hG.size; omega)
    try replace hA := hA.ext hxm
    try replace hR := hR.below hxm
    try replace hZ := hZ.ext hxm
    try replace hq2 := (hxm.block b2 hl2).trans hq2
    replace hl2 := Nat.lt_of_lt_of_le hl2 hxm.size
    replace hG := hG.trans (ExcP.of_ext hxm)
    clear hxm hm3 hm1
    refine ⟨Keep.mk fun w' hw => hG.trans (ExcP.of_ext hw), ?_⟩
    refine uE ?_
    refine CallV.pk (g := g) trivial (fun w' hw _ => user_any g _ w' (hR.below hw) (by omega)) (fun u q wq wr hxq hu0 hu1 hq hR' hg' => ?_)
    have hX := ExcP.grown (S := fun j => j = g ∨ j = b2) (ext_grown hxq hg') (.inl rfl)
    replace hR := hR'
    replace hq2 := grown_blk (ext_grown hxq hg') hn2 hl2 hq2
    replace hl2 := Nat.lt_of_lt_of_le hl2 hX.size
    replace hG := hG.trans hX
    try replace hB := hB.exc hX
    clear hX hR' hg' hxq
    refine ⟨Keep.mk fun w' hw => hG.trans (ExcP.of_ext hw), ?_⟩
    refine WpE.ef2 (by exact rfl) (by exact rfl) ?_ ?_
    · refine Made.mk fun gm wm hxm hm1 hm2 hm3 _ => ?_
      have hA := Fr.of_block (S := fun j => j = g ∨ j = b2) (cs := [.int .i64 u, .int .i64 100, .int .i64 (-1)]) hm3 hm2 (by have := hG.size; omega)
      try replace hB := hB.ext hxm
      try replace hR := hR.below hxm
      try replace hZ := hZ.ext hxm
      try replace hq2 := (hxm.block b2 hl2).trans hq2
      replace hl2 := Nat.lt_of_lt_of_le hl2 hxm.size
      replace hG := hG.trans (ExcP.of_ext hxm)
      clear hxm hm3 hm1
      refine ⟨Keep.mk fun w' hw => hG.trans (ExcP.of_ext hw), ?_⟩
      refine uE ?_
      refine CallV.pick (g := g) trivial (by omega) (fun w' hw _ => pick_any g _ 7 w' (hR.below hw) (by omega) (by omega)) (fun j wq wr hxq hj hR' hg' => ?_)
      obtain ⟨i, hi, hij⟩ := seven hj
      have hX := ExcP.grown (S := fun j => j = g ∨ j = b2) (ext_grown hxq hg') (.inl rfl)
      replace hq2 := grown_blk (ext_grown hxq hg') hn2 hl2 hq2
      replace hl2 := Nat.lt_of_lt_of_le hl2 hX.size
      replace hG := hG.trans hX
      try replace hB := hB.exc hX
      try replace hA := hA.exc hX
      clear hR hR' hg' hX hxq
      refine ⟨Keep.mk fun w' hw => hG.trans (ExcP.of_ext hw), ?_⟩
      refine WpE.rdD (by exact rfl) (by exact rfl) ?_
      refine ⟨_, fun w' hw => Ix.mk j rfl (by omega) rfl, ?_⟩
      refine WpE.ef2 (by exact rfl) (by exact rfl) ?_ ?_
      · refine Ld.mk (hB.cells.out j _ hij) ?_
        clear hB
        refine ⟨Keep.mk fun w' hw => hG.trans (ExcP.of_ext hw), ?_⟩
        refine WpE.rdD (by exact rfl) (by exact rfl) ?_
        refine ⟨_, fun w' hw => Ix.mk i rfl (by omega) rfl, ?_⟩
        refine WpE.ef2 (by exact rfl) (by exact rfl) ?_ ?_
        · obtain ⟨t, ht, hti⟩ := three hi u hu0 hu1
          refine Ld.mk (hA.cells.out i _ hti) ?_
          refine ⟨Keep.mk fun w' hw => hG.trans (ExcP.of_ext hw), ?_⟩
          refine uE ?_
          have hm2 := MutN.of_block (o := 0) (n := 4) hq2 (by simp)
          refine ⟨hm2, trivial, rfl, by simp [Value.oneCell'], ?_⟩
          have hZ := CellsAt.setL_in (l := [.int .i64 c.real, .int .i64 c.acts, .int .i64 c.saved, .int .i64 c.groups]) hm2
          replace hG := hG.setL (g := b2) (.inr rfl) [.int .i64 c.real, .int .i64 c.acts, .int .i64 c.saved, .int .i64 c.groups] 0
          try replace hA := hA.setL (S := fun j => j = g ∨ j = b2) (g := b2) (o := 0) (m := [.int .i64 c.real, .int .i64 c.acts, .int .i64 c.saved, .int .i64 c.groups]) (.inr rfl)
          try replace hB := hB.setL (S := fun j => j = g ∨ j = b2) (g := b2) (o := 0) (m := [.int .i64 c.real, .int .i64 c.acts, .int .i64 c.saved, .int .i64 c.groups]) (.inr rfl)
          replace hl2 := Nat.lt_of_lt_of_eq hl2 (setL_size b2 [.int .i64 c.real, .int .i64 c.acts, .int .i64 c.saved, .int .i64 c.groups] _ 0).symm
          clear hq2 hm2
          refine ⟨Keep.mk fun w' hw => hG.trans (ExcP.of_ext hw), ?_⟩
          refine WpE.now fun wn hxn _ => ?_
          replace hZ := hZ.ext hxn
          replace hG := hG.trans (ExcP.of_ext hxn)
          try replace hA := hA.ext hxn
          try replace hB := hB.ext hxn
          replace hl2 := Nat.lt_of_lt_of_le hl2 hxn.size
          clear hxn
          refine uM ?_
          refine uD ?_
          repeat (first | refine jC ?_ | refine jN ?_ | refine jS ?_ | refine jR ?_ | refine jT ?_ | refine jB ?_ | refine jX rfl ?_ | refine jY rfl ?_ | refine jK ?_ | refine jD ?_ | refine jE ?_)
          refine LdN.mk hZ rfl ?_
          repeat (first | refine jC ?_ | refine jN ?_ | refine jS ?_ | refine jR ?_ | refine jT ?_ | refine jB ?_ | refine jX rfl ?_ | refine jY rfl ?_ | refine jK ?_ | refine jD ?_ | refine jE ?_)
          exact EndV.mk fun w' hw' => ⟨c, t, rfl, hsm, ht, hB03.trans ((hG.trans (ExcP.of_ext hw')).below hB03.size (by rintro j hj (e | e) <;> omega))⟩
        · refine uE ?_
          have hm2 := MutN.of_block (o := 0) (n := 4) hq2 (by simp)
          refine ⟨hm2, trivial, rfl, by simp [Value.oneCell'], ?_⟩
          have hZ := CellsAt.setL_in (l := [.int .i64 c.real, .int .i64 c.acts, .int .i64 c.saved, .int .i64 c.groups]) hm2
          replace hG := hG.setL (g := b2) (.inr rfl) [.int .i64 c.real, .int .i64 c.acts, .int .i64 c.saved, .int .i64 c.groups] 0
          try replace hA := hA.setL (S := fun j => j = g ∨ j = b2) (g := b2) (o := 0) (m := [.int .i64 c.real, .int .i64 c.acts, .int .i64 c.saved, .int .i64 c.groups]) (.inr rfl)
          try replace hB := hB.setL (S := fun j => j = g ∨ j = b2) (g := b2) (o := 0) (m := [.int .i64 c.real, .int .i64 c.acts, .int .i64 c.saved, .int .i64 c.groups]) (.inr rfl)
          replace hl2 := Nat.lt_of_lt_of_eq hl2 (setL_size b2 [.int .i64 c.real, .int .i64 c.acts, .int .i64 c.saved, .int .i64 c.groups] _ 0).symm
          clear hq2 hm2
          refine ⟨Keep.mk fun w' hw => hG.trans (ExcP.of_ext hw), ?_⟩
          refine WpE.now fun wn hxn _ => ?_
          replace hZ := hZ.ext hxn
          replace hG := hG.trans (ExcP.of_ext hxn)
          try replace hA := hA.ext hxn
          try replace hB := hB.ext hxn
          replace hl2 := Nat.lt_of_lt_of_le hl2 hxn.size
          clear hxn
          refine uE ?_
          obtain ⟨t, ht, hti⟩ := three hi u hu0 hu1
          refine Ld.mk (hA.cells.out i _ hti) ?_
          refine ⟨Keep.mk fun w' hw => hG.trans (ExcP.of_ext hw), ?_⟩
          refine uM ?_
          refine uD ?_
          repeat (first | refine jC ?_ | refine jN ?_ | refine jS ?_ | refine jR ?_ | refine jT ?_ | refine jB ?_ | refine jX rfl ?_ | refine jY rfl ?_ | refine jK ?_ | refine jD ?_ | refine jE ?_)
          refine LdN.mk hZ rfl ?_
          repeat (first | refine jC ?_ | refine jN ?_ | refine jS ?_ | refine jR ?_ | refine jT ?_ | refine jB ?_ | refine jX rfl ?_ | refine jY rfl ?_ | refine jK ?_ | refine jD ?_ | refine jE ?_)
          exact EndV.mk fun w' hw' => ⟨c, t, rfl, hsm, ht, hB03.trans ((hG.trans (ExcP.of_ext hw')).below hB03.size (by rintro j hj (e | e) <;> omega))⟩
      · refine uE ?_
        have hm2 := MutN.of_block (o := 0) (n := 4) hq2 (by simp)
        refine ⟨hm2, trivial, rfl, by simp [Value.oneCell'], ?_⟩
        have hZ := CellsAt.setL_in (l := [.int .i64 c.real, .int .i64 c.acts, .int .i64 c.saved, .int .i64 c.groups]) hm2
        replace hG := hG.setL (g := b2) (.inr rfl) [.int .i64 c.real, .int .i64 c.acts, .int .i64 c.saved, .int .i64 c.groups] 0
        try replace hA := hA.setL (S := fun j => j = g ∨ j = b2) (g := b2) (o := 0) (m := [.int .i64 c.real, .int .i64 c.acts, .int .i64 c.saved, .int .i64 c.groups]) (.inr rfl)
        try replace hB := hB.setL (S := fun j => j = g ∨ j = b2) (g := b2) (o := 0) (m := [.int .i64 c.real, .int .i64 c.acts, .int .i64 c.saved, .int .i64 c.groups]) (.inr rfl)
        replace hl2 := Nat.lt_of_lt_of_eq hl2 (setL_size b2 [.int .i64 c.real, .int .i64 c.acts, .int .i64 c.saved, .int .i64 c.groups] _ 0).symm
        clear hq2 hm2
        refine ⟨Keep.mk fun w' hw => hG.trans (ExcP.of_ext hw), ?_⟩
        refine WpE.now fun wn hxn _ => ?_
        replace hZ := hZ.ext hxn
        replace hG := hG.trans (ExcP.of_ext hxn)
        try replace hA := hA.ext hxn
        try replace hB := hB.ext hxn
        replace hl2 := Nat.lt_of_lt_of_le hl2 hxn.size
        clear hxn
        refine uE ?_
        refine Ld.mk (hB.cells.out j _ hij) ?_
        clear hB
        refine ⟨Keep.mk fun w' hw => hG.trans (ExcP.of_ext hw), ?_⟩
        refine WpE.rdD (by exact rfl) (by exact rfl) ?_
        refine ⟨_, fun w' hw => Ix.mk i rfl (by omega) rfl, ?_⟩
        refine uE ?_
        obtain ⟨t, ht, hti⟩ := three hi u hu0 hu1
        refine Ld.mk (hA.cells.out i _ hti) ?_
        refine ⟨Keep.mk fun w' hw => hG.trans (ExcP.of_ext hw), ?_⟩
        refine uM ?_
        refine uD ?_
        repeat (first | refine jC ?_ | refine jN ?_ | refine jS ?_ | refine jR ?_ | refine jT ?_ | refine jB ?_ | refine jX rfl ?_ | refine jY rfl ?_ | refine jK ?_ | refine jD ?_ | refine jE ?_)
        refine LdN.mk hZ rfl ?_
        repeat (first | refine jC ?_ | refine jN ?_ | refine jS ?_ | refine jR ?_ | refine jT ?_ | refine jB ?_ | refine jX rfl ?_ | refine jY rfl ?_ | refine jK ?_ | refine jD ?_ | refine jE ?_)
        exact EndV.mk fun w' hw' => ⟨c, t, rfl, hsm, ht, hB03.trans ((hG.trans (ExcP.of_ext hw')).below hB03.size (by rintro j hj (e | e) <;> omega))⟩
    · refine uE ?_
      refine CallV.pick (g := g) trivial (by omega) (fun w' hw _ => pick_any g _ 7 w' (hR.below hw) (by omega) (by omega)) (fun j wq wr hxq hj hR' hg' => ?_)
      obtain ⟨i, hi, hij⟩ := seven hj
      have hX := ExcP.grown (S := fun j => j = g ∨ j = b2) (ext_grown hxq hg') (.inl rfl)
      replace hq2 := grown_blk (ext_grown hxq hg') hn2 hl2 hq2
      replace hl2 := Nat.lt_of_lt_of_le hl2 hX.size
      replace hG := hG.trans hX
      try replace hB := hB.exc hX
      try replace hA := hA.exc hX
      clear hR hR' hg' hX hxq
      refine ⟨Keep.mk fun w' hw => hG.trans (ExcP.of_ext hw), ?_⟩
      refine WpE.rdD (by exact rfl) (by exact rfl) ?_
      refine ⟨_, fun w' hw => Ix.mk j rfl (by omega) rfl, ?_⟩
      refine WpE.ef2 (by exact rfl) (by exact rfl) ?_ ?_
      · refine Made.mk fun gm wm hxm hm1 hm2 hm3 _ => ?_
        have hA := Fr.of_block (S := fun j => j = g ∨ j = b2) (cs := [.int .i64 u, .int .i64 100, .int .i64 (-1)]) hm3 hm2 (by have := hG.size; omega)
        try replace hB := hB.ext hxm
        try replace hR := hR.below hxm
        try replace hZ := hZ.ext hxm
        try replace hq2 := (hxm.block b2 hl2).trans hq2
        replace hl2 := Nat.lt_of_lt_of_le hl2 hxm.size
        replace hG := hG.trans (ExcP.of_ext hxm)
        clear hxm hm3 hm1
        refine ⟨Keep.mk fun w' hw => hG.trans (ExcP.of_ext hw), ?_⟩
        refine WpE.ef2 (by exact rfl) (by exact rfl) ?_ ?_
        · refine Ld.mk (hB.cells.out j _ hij) ?_
          clear hB
          refine ⟨Keep.mk fun w' hw => hG.trans (ExcP.of_ext hw), ?_⟩
          refine WpE.rdD (by exact rfl) (by exact rfl) ?_
          refine ⟨_, fun w' hw => Ix.mk i rfl (by omega) rfl, ?_⟩
          refine WpE.ef2 (by exact rfl) (by exact rfl) ?_ ?_
          · obtain ⟨t, ht, hti⟩ := three hi u hu0 hu1
            refine Ld.mk (hA.cells.out i _ hti) ?_
            refine ⟨Keep.mk fun w' hw => hG.trans (ExcP.of_ext hw), ?_⟩
            refine uE ?_
            have hm2 := MutN.of_block (o := 0) (n := 4) hq2 (by simp)
            refine ⟨hm2, trivial, rfl, by simp [Value.oneCell'], ?_⟩
            have hZ := CellsAt.setL_in (l := [.int .i64 c.real, .int .i64 c.acts, .int .i64 c.saved, .int .i64 c.groups]) hm2
            replace hG := hG.setL (g := b2) (.inr rfl) [.int .i64 c.real, .int .i64 c.acts, .int .i64 c.saved, .int .i64 c.groups] 0
            try replace hA := hA.setL (S := fun j => j = g ∨ j = b2) (g := b2) (o := 0) (m := [.int .i64 c.real, .int .i64 c.acts, .int .i64 c.saved, .int .i64 c.groups]) (.inr rfl)
            try replace hB := hB.setL (S := fun j => j = g ∨ j = b2) (g := b2) (o := 0) (m := [.int .i64 c.real, .int .i64 c.acts, .int .i64 c.saved, .int .i64 c.groups]) (.inr rfl)
            replace hl2 := Nat.lt_of_lt_of_eq hl2 (setL_size b2 [.int .i64 c.real, .int .i64 c.acts, .int .i64 c.saved, .int .i64 c.groups] _ 0).symm
            clear hq2 hm2
            refine ⟨Keep.mk fun w' hw => hG.trans (ExcP.of_ext hw), ?_⟩
            refine WpE.now fun wn hxn _ => ?_
            replace hZ := hZ.ext hxn
            replace hG := hG.trans (ExcP.of_ext hxn)
            try replace hA := hA.ext hxn
            try replace hB := hB.ext hxn
            replace hl2 := Nat.lt_of_lt_of_le hl2 hxn.size
            clear hxn
            refine uM ?_
            refine uD ?_
            repeat (first | refine jC ?_ | refine jN ?_ | refine jS ?_ | refine jR ?_ | refine jT ?_ | refine jB ?_ | refine jX rfl ?_ | refine jY rfl ?_ | refine jK ?_ | refine jD ?_ | refine jE ?_)
            refine LdN.mk hZ rfl ?_
            repeat (first | refine jC ?_ | refine jN ?_ | refine jS ?_ | refine jR ?_ | refine jT ?_ | refine jB ?_ | refine jX rfl ?_ | refine jY rfl ?_ | refine jK ?_ | refine jD ?_ | refine jE ?_)
            exact EndV.mk fun w' hw' => ⟨c, t, rfl, hsm, ht, hB03.trans ((hG.trans (ExcP.of_ext hw')).below hB03.size (by rintro j hj (e | e) <;> omega))⟩
          · refine uE ?_
            have hm2 := MutN.of_block (o := 0) (n := 4) hq2 (by simp)
            refine ⟨hm2, trivial, rfl, by simp [Value.oneCell'], ?_⟩
            have hZ := CellsAt.setL_in (l := [.int .i64 c.real, .int .i64 c.acts, .int .i64 c.saved, .int .i64 c.groups]) hm2
            replace hG := hG.setL (g := b2) (.inr rfl) [.int .i64 c.real, .int .i64 c.acts, .int .i64 c.saved, .int .i64 c.groups] 0
            try replace hA := hA.setL (S := fun j => j = g ∨ j = b2) (g := b2) (o := 0) (m := [.int .i64 c.real, .int .i64 c.acts, .int .i64 c.saved, .int .i64 c.groups]) (.inr rfl)
            try replace hB := hB.setL (S := fun j => j = g ∨ j = b2) (g := b2) (o := 0) (m := [.int .i64 c.real, .int .i64 c.acts, .int .i64 c.saved, .int .i64 c.groups]) (.inr rfl)
            replace hl2 := Nat.lt_of_lt_of_eq hl2 (setL_size b2 [.int .i64 c.real, .int .i64 c.acts, .int .i64 c.saved, .int .i64 c.groups] _ 0).symm
            clear hq2 hm2
            refine ⟨Keep.mk fun w' hw => hG.trans (ExcP.of_ext hw), ?_⟩
            refine WpE.now fun wn hxn _ => ?_
            replace hZ := hZ.ext hxn
            replace hG := hG.trans (ExcP.of_ext hxn)
            try replace hA := hA.ext hxn
            try replace hB := hB.ext hxn
            replace hl2 := Nat.lt_of_lt_of_le hl2 hxn.size
            clear hxn
            refine uE ?_
            obtain ⟨t, ht, hti⟩ := three hi u hu0 hu1
            refine Ld.mk (hA.cells.out i _ hti) ?_
            refine ⟨Keep.mk fun w' hw => hG.trans (ExcP.of_ext hw), ?_⟩
            refine uM ?_
            refine uD ?_
            repeat (first | refine jC ?_ | refine jN ?_ | refine jS ?_ | refine jR ?_ | refine jT ?_ | refine jB ?_ | refine jX rfl ?_ | refine jY rfl ?_ | refine jK ?_ | refine jD ?_ | refine jE ?_)
            refine LdN.mk hZ rfl ?_
            repeat (first | refine jC ?_ | refine jN ?_ | refine jS ?_ | refine jR ?_ | refine jT ?_ | refine jB ?_ | refine jX rfl ?_ | refine jY rfl ?_ | refine jK ?_ | refine jD ?_ | refine jE ?_)
            exact EndV.mk fun w' hw' => ⟨c, t, rfl, hsm, ht, hB03.trans ((hG.trans (ExcP.of_ext hw')).below hB03.size (by rintro j hj (e | e) <;> omega))⟩
        · refine uE ?_
          have hm2 := MutN.of_block (o := 0) (n := 4) hq2 (by simp)
          refine ⟨hm2, trivial, rfl, by simp [Value.oneCell'], ?_⟩
          have hZ := CellsAt.setL_in (l := [.int .i64 c.real, .int .i64 c.acts, .int .i64 c.saved, .int .i64 c.groups]) hm2
          replace hG := hG.setL (g := b2) (.inr rfl) [.int .i64 c.real, .int .i64 c.acts, .int .i64 c.saved, .int .i64 c.groups] 0
          try replace hA := hA.setL (S := fun j => j = g ∨ j = b2) (g := b2) (o := 0) (m := [.int .i64 c.real, .int .i64 c.acts, .int .i64 c.saved, .int .i64 c.groups]) (.inr rfl)
          try replace hB := hB.setL (S := fun j => j = g ∨ j = b2) (g := b2) (o := 0) (m := [.int .i64 c.real, .int .i64 c.acts, .int .i64 c.saved, .int .i64 c.groups]) (.inr rfl)
          replace hl2 := Nat.lt_of_lt_of_eq hl2 (setL_size b2 [.int .i64 c.real, .int .i64 c.acts, .int .i64 c.saved, .int .i64 c.groups] _ 0).symm
          clear hq2 hm2
          refine ⟨Keep.mk fun w' hw => hG.trans (ExcP.of_ext hw), ?_⟩
          refine WpE.now fun wn hxn _ => ?_
          replace hZ := hZ.ext hxn
          replace hG := hG.trans (ExcP.of_ext hxn)
          try replace hA := hA.ext hxn
          try replace hB := hB.ext hxn
          replace hl2 := Nat.lt_of_lt_of_le hl2 hxn.size
          clear hxn
          refine uE ?_
          refine Ld.mk (hB.cells.out j _ hij) ?_
          clear hB
          refine ⟨Keep.mk fun w' hw => hG.trans (ExcP.of_ext hw), ?_⟩
          refine WpE.rdD (by exact rfl) (by exact rfl) ?_
          refine ⟨_, fun w' hw => Ix.mk i rfl (by omega) rfl, ?_⟩
          refine uE ?_
          obtain ⟨t, ht, hti⟩ := three hi u hu0 hu1
          refine Ld.mk (hA.cells.out i _ hti) ?_
          refine ⟨Keep.mk fun w' hw => hG.trans (ExcP.of_ext hw), ?_⟩
          refine uM ?_
          refine uD ?_
          repeat (first | refine jC ?_ | refine jN ?_ | refine jS ?_ | refine jR ?_ | refine jT ?_ | refine jB ?_ | refine jX rfl ?_ | refine jY rfl ?_ | refine jK ?_ | refine jD ?_ | refine jE ?_)
          refine LdN.mk hZ rfl ?_
          repeat (first | refine jC ?_ | refine jN ?_ | refine jS ?_ | refine jR ?_ | refine jT ?_ | refine jB ?_ | refine jX rfl ?_ | refine jY rfl ?_ | refine jK ?_ | refine jD ?_ | refine jE ?_)
          exact EndV.mk fun w' hw' => ⟨c, t, rfl, hsm, ht, hB03.trans ((hG.trans (ExcP.of_ext hw')).below hB03.size (by rintro j hj (e | e) <;> omega))⟩
      · refine WpE.ef2 (by exact rfl) (by exact rfl) ?_ ?_
        · refine Ld.mk (hB.cells.out j _ hij) ?_
          clear hB
          refine ⟨Keep.mk fun w' hw => hG.trans (ExcP.of_ext hw), ?_⟩
          refine WpE.ef2 (by exact rfl) (by exact rfl) ?_ ?_
          · refine Made.mk fun gm wm hxm hm1 hm2 hm3 _ => ?_
            have hA := Fr.of_block (S := fun j => j = g ∨ j = b2) (cs := [.int .i64 u, .int .i64 100, .int .i64 (-1)]) hm3 hm2 (by have := hG.size; omega)
            try replace hB := hB.ext hxm
            try replace hR := hR.below hxm
            try replace hZ := hZ.ext hxm
            try replace hq2 := (hxm.block b2 hl2).trans hq2
            replace hl2 := Nat.lt_of_lt_of_le hl2 hxm.size
            replace hG := hG.trans (ExcP.of_ext hxm)
            clear hxm hm3 hm1
            refine ⟨Keep.mk fun w' hw => hG.trans (ExcP.of_ext hw), ?_⟩
            refine WpE.rdD (by exact rfl) (by exact rfl) ?_
            refine ⟨_, fun w' hw => Ix.mk i rfl (by omega) rfl, ?_⟩
            refine WpE.ef2 (by exact rfl) (by exact rfl) ?_ ?_
            · obtain ⟨t, ht, hti⟩ := three hi u hu0 hu1
              refine Ld.mk (hA.cells.out i _ hti) ?_
              refine ⟨Keep.mk fun w' hw => hG.trans (ExcP.of_ext hw), ?_⟩
              refine uE ?_
              have hm2 := MutN.of_block (o := 0) (n := 4) hq2 (by simp)
              refine ⟨hm2, trivial, rfl, by simp [Value.oneCell'], ?_⟩
              have hZ := CellsAt.setL_in (l := [.int .i64 c.real, .int .i64 c.acts, .int .i64 c.saved, .int .i64 c.groups]) hm2
              replace hG := hG.setL (g := b2) (.inr rfl) [.int .i64 c.real, .int .i64 c.acts, .int .i64 c.saved, .int .i64 c.groups] 0
              try replace hA := hA.setL (S := fun j => j = g ∨ j = b2) (g := b2) (o := 0) (m := [.int .i64 c.real, .int .i64 c.acts, .int .i64 c.saved, .int .i64 c.groups]) (.inr rfl)
              try replace hB := hB.setL (S := fun j => j = g ∨ j = b2) (g := b2) (o := 0) (m := [.int .i64 c.real, .int .i64 c.acts, .int .i64 c.saved, .int .i64 c.groups]) (.inr rfl)
              replace hl2 := Nat.lt_of_lt_of_eq hl2 (setL_size b2 [.int .i64 c.real, .int .i64 c.acts, .int .i64 c.saved, .int .i64 c.groups] _ 0).symm
              clear hq2 hm2
              refine ⟨Keep.mk fun w' hw => hG.trans (ExcP.of_ext hw), ?_⟩
              refine WpE.now fun wn hxn _ => ?_
              replace hZ := hZ.ext hxn
              replace hG := hG.trans (ExcP.of_ext hxn)
              try replace hA := hA.ext hxn
              try replace hB := hB.ext hxn
              replace hl2 := Nat.lt_of_lt_of_le hl2 hxn.size
              clear hxn
              refine uM ?_
              refine uD ?_
              repeat (first | refine jC ?_ | refine jN ?_ | refine jS ?_ | refine jR ?_ | refine jT ?_ | refine jB ?_ | refine jX rfl ?_ | refine jY rfl ?_ | refine jK ?_ | refine jD ?_ | refine jE ?_)
              refine LdN.mk hZ rfl ?_
              repeat (first | refine jC ?_ | refine jN ?_ | refine jS ?_ | refine jR ?_ | refine jT ?_ | refine jB ?_ | refine jX rfl ?_ | refine jY rfl ?_ | refine jK ?_ | refine jD ?_ | refine jE ?_)
              exact EndV.mk fun w' hw' => ⟨c, t, rfl, hsm, ht, hB03.trans ((hG.trans (ExcP.of_ext hw')).below hB03.size (by rintro j hj (e | e) <;> omega))⟩
            · refine uE ?_
              have hm2 := MutN.of_block (o := 0) (n := 4) hq2 (by simp)
              refine ⟨hm2, trivial, rfl, by simp [Value.oneCell'], ?_⟩
              have hZ := CellsAt.setL_in (l := [.int .i64 c.real, .int .i64 c.acts, .int .i64 c.saved, .int .i64 c.groups]) hm2
              replace hG := hG.setL (g := b2) (.inr rfl) [.int .i64 c.real, .int .i64 c.acts, .int .i64 c.saved, .int .i64 c.groups] 0
              try replace hA := hA.setL (S := fun j => j = g ∨ j = b2) (g := b2) (o := 0) (m := [.int .i64 c.real, .int .i64 c.acts, .int .i64 c.saved, .int .i64 c.groups]) (.inr rfl)
              try replace hB := hB.setL (S := fun j => j = g ∨ j = b2) (g := b2) (o := 0) (m := [.int .i64 c.real, .int .i64 c.acts, .int .i64 c.saved, .int .i64 c.groups]) (.inr rfl)
              replace hl2 := Nat.lt_of_lt_of_eq hl2 (setL_size b2 [.int .i64 c.real, .int .i64 c.acts, .int .i64 c.saved, .int .i64 c.groups] _ 0).symm
              clear hq2 hm2
              refine ⟨Keep.mk fun w' hw => hG.trans (ExcP.of_ext hw), ?_⟩
              refine WpE.now fun wn hxn _ => ?_
              replace hZ := hZ.ext hxn
              replace hG := hG.trans (ExcP.of_ext hxn)
              try replace hA := hA.ext hxn
              try replace hB := hB.ext hxn
              replace hl2 := Nat.lt_of_lt_of_le hl2 hxn.size
              clear hxn
              refine uE ?_
              obtain ⟨t, ht, hti⟩ := three hi u hu0 hu1
              refine Ld.mk (hA.cells.out i _ hti) ?_
              refine ⟨Keep.mk fun w' hw => hG.trans (ExcP.of_ext hw), ?_⟩
              refine uM ?_
              refine uD ?_
              repeat (first | refine jC ?_ | refine jN ?_ | refine jS ?_ | refine jR ?_ | refine jT ?_ | refine jB ?_ | refine jX rfl ?_ | refine jY rfl ?_ | refine jK ?_ | refine jD ?_ | refine jE ?_)
              refine LdN.mk hZ rfl ?_
              repeat (first | refine jC ?_ | refine jN ?_ | refine jS ?_ | refine jR ?_ | refine jT ?_ | refine jB ?_ | refine jX rfl ?_ | refine jY rfl ?_ | refine jK ?_ | refine jD ?_ | refine jE ?_)
              exact EndV.mk fun w' hw' => ⟨c, t, rfl, hsm, ht, hB03.trans ((hG.trans (ExcP.of_ext hw')).below hB03.size (by rintro j hj (e | e) <;> omega))⟩
          · refine uE ?_
            have hm2 := MutN.of_block (o := 0) (n := 4) hq2 (by simp)
            refine ⟨hm2, trivial, rfl, by simp [Value.oneCell'], ?_⟩
            have hZ := CellsAt.setL_in (l := [.int .i64 c.real, .int .i64 c.acts, .int .i64 c.saved, .int .i64 c.groups]) hm2
            replace hG := hG.setL (g := b2) (.inr rfl) [.int .i64 c.real, .int .i64 c.acts, .int .i64 c.saved, .int .i64 c.groups] 0
            try replace hA := hA.setL (S := fun j => j = g ∨ j = b2) (g := b2) (o := 0) (m := [.int .i64 c.real, .int .i64 c.acts, .int .i64 c.saved, .int .i64 c.groups]) (.inr rfl)
            try replace hB := hB.setL (S := fun j => j = g ∨ j = b2) (g := b2) (o := 0) (m := [.int .i64 c.real, .int .i64 c.acts, .int .i64 c.saved, .int .i64 c.groups]) (.inr rfl)
            replace hl2 := Nat.lt_of_lt_of_eq hl2 (setL_size b2 [.int .i64 c.real, .int .i64 c.acts, .int .i64 c.saved, .int .i64 c.groups] _ 0).symm
            clear hq2 hm2
            refine ⟨Keep.mk fun w' hw => hG.trans (ExcP.of_ext hw), ?_⟩
            refine WpE.now fun wn hxn _ => ?_
            replace hZ := hZ.ext hxn
            replace hG := hG.trans (ExcP.of_ext hxn)
            try replace hA := hA.ext hxn
            try replace hB := hB.ext hxn
            replace hl2 := Nat.lt_of_lt_of_le hl2 hxn.size
            clear hxn
            refine uE ?_
            refine Made.mk fun gm wm hxm hm1 hm2 hm3 _ => ?_
            have hA := Fr.of_block (S := fun j => j = g ∨ j = b2) (cs := [.int .i64 u, .int .i64 100, .int .i64 (-1)]) hm3 hm2 (by have := hG.size; omega)
            try replace hB := hB.ext hxm
            try replace hR := hR.below hxm
            try replace hZ := hZ.ext hxm
            try replace hq2 := (hxm.block b2 hl2).trans hq2
            replace hl2 := Nat.lt_of_lt_of_le hl2 hxm.size
            replace hG := hG.trans (ExcP.of_ext hxm)
            clear hxm hm3 hm1
            refine ⟨Keep.mk fun w' hw => hG.trans (ExcP.of_ext hw), ?_⟩
            refine WpE.rdD (by exact rfl) (by exact rfl) ?_
            refine ⟨_, fun w' hw => Ix.mk i rfl (by omega) rfl, ?_⟩
            refine uE ?_
            obtain ⟨t, ht, hti⟩ := three hi u hu0 hu1
            refine Ld.mk (hA.cells.out i _ hti) ?_
            refine ⟨Keep.mk fun w' hw => hG.trans (ExcP.of_ext hw), ?_⟩
            refine uM ?_
            refine uD ?_
            repeat (first | refine jC ?_ | refine jN ?_ | refine jS ?_ | refine jR ?_ | refine jT ?_ | refine jB ?_ | refine jX rfl ?_ | refine jY rfl ?_ | refine jK ?_ | refine jD ?_ | refine jE ?_)
            refine LdN.mk hZ rfl ?_
            repeat (first | refine jC ?_ | refine jN ?_ | refine jS ?_ | refine jR ?_ | refine jT ?_ | refine jB ?_ | refine jX rfl ?_ | refine jY rfl ?_ | refine jK ?_ | refine jD ?_ | refine jE ?_)
            exact EndV.mk fun w' hw' => ⟨c, t, rfl, hsm, ht, hB03.trans ((hG.trans (ExcP.of_ext hw')).below hB03.size (by rintro j hj (e | e) <;> omega))⟩
        · refine uE ?_
          have hm2 := MutN.of_block (o := 0) (n := 4) hq2 (by simp)
          refine ⟨hm2, trivial, rfl, by simp [Value.oneCell'], ?_⟩
          have hZ := CellsAt.setL_in (l := [.int .i64 c.real, .int .i64 c.acts, .int .i64 c.saved, .int .i64 c.groups]) hm2
          replace hG := hG.setL (g := b2) (.inr rfl) [.int .i64 c.real, .int .i64 c.acts, .int .i64 c.saved, .int .i64 c.groups] 0
          try replace hA := hA.setL (S := fun j => j = g ∨ j = b2) (g := b2) (o := 0) (m := [.int .i64 c.real, .int .i64 c.acts, .int .i64 c.saved, .int .i64 c.groups]) (.inr rfl)
          try replace hB := hB.setL (S := fun j => j = g ∨ j = b2) (g := b2) (o := 0) (m := [.int .i64 c.real, .int .i64 c.acts, .int .i64 c.saved, .int .i64 c.groups]) (.inr rfl)
          replace hl2 := Nat.lt_of_lt_of_eq hl2 (setL_size b2 [.int .i64 c.real, .int .i64 c.acts, .int .i64 c.saved, .int .i64 c.groups] _ 0).symm
          clear hq2 hm2
          refine ⟨Keep.mk fun w' hw => hG.trans (ExcP.of_ext hw), ?_⟩
          refine WpE.now fun wn hxn _ => ?_
          replace hZ := hZ.ext hxn
          replace hG := hG.trans (ExcP.of_ext hxn)
          try replace hA := hA.ext hxn
          try replace hB := hB.ext hxn
          replace hl2 := Nat.lt_of_lt_of_le hl2 hxn.size
          clear hxn
          refine WpE.ef2 (by exact rfl) (by exact rfl) ?_ ?_
          · refine Made.mk fun gm wm hxm hm1 hm2 hm3 _ => ?_
            have hA := Fr.of_block (S := fun j => j = g ∨ j = b2) (cs := [.int .i64 u, .int .i64 100, .int .i64 (-1)]) hm3 hm2 (by have := hG.size; omega)
            try replace hB := hB.ext hxm
            try replace hR := hR.below hxm
            try replace hZ := hZ.ext hxm
            try replace hq2 := (hxm.block b2 hl2).trans hq2
            replace hl2 := Nat.lt_of_lt_of_le hl2 hxm.size
            replace hG := hG.trans (ExcP.of_ext hxm)
            clear hxm hm3 hm1
            refine ⟨Keep.mk fun w' hw => hG.trans (ExcP.of_ext hw), ?_⟩
            refine uE ?_
            refine Ld.mk (hB.cells.out j _ hij) ?_
            clear hB
            refine ⟨Keep.mk fun w' hw => hG.trans (ExcP.of_ext hw), ?_⟩
            refine WpE.rdD (by exact rfl) (by exact rfl) ?_
            refine ⟨_, fun w' hw => Ix.mk i rfl (by omega) rfl, ?_⟩
            refine uE ?_
            obtain ⟨t, ht, hti⟩ := three hi u hu0 hu1
            refine Ld.mk (hA.cells.out i _ hti) ?_
            refine ⟨Keep.mk fun w' hw => hG.trans (ExcP.of_ext hw), ?_⟩
            refine uM ?_
            refine uD ?_
            repeat (first | refine jC ?_ | refine jN ?_ | refine jS ?_ | refine jR ?_ | refine jT ?_ | refine jB ?_ | refine jX rfl ?_ | refine jY rfl ?_ | refine jK ?_ | refine jD ?_ | refine jE ?_)
            refine LdN.mk hZ rfl ?_
            repeat (first | refine jC ?_ | refine jN ?_ | refine jS ?_ | refine jR ?_ | refine jT ?_ | refine jB ?_ | refine jX rfl ?_ | refine jY rfl ?_ | refine jK ?_ | refine jD ?_ | refine jE ?_)
            exact EndV.mk fun w' hw' => ⟨c, t, rfl, hsm, ht, hB03.trans ((hG.trans (ExcP.of_ext hw')).below hB03.size (by rintro j hj (e | e) <;> omega))⟩
          · refine uE ?_
            refine Ld.mk (hB.cells.out j _ hij) ?_
            clear hB
            refine ⟨Keep.mk fun w' hw => hG.trans (ExcP.of_ext hw), ?_⟩
            refine uE ?_
            refine Made.mk fun gm wm hxm hm1 hm2 hm3 _ => ?_
            have hA := Fr.of_block (S := fun j => j = g ∨ j = b2) (cs := [.int .i64 u, .int .i64 100, .int .i64 (-1)]) hm3 hm2 (by have := hG.size; omega)
            try replace hB := hB.ext hxm
            try replace hR := hR.below hxm
            try replace hZ := hZ.ext hxm
            try replace hq2 := (hxm.block b2 hl2).trans hq2
            replace hl2 := Nat.lt_of_lt_of_le hl2 hxm.size
            replace hG := hG.trans (ExcP.of_ext hxm)
            clear hxm hm3 hm1
            refine ⟨Keep.mk fun w' hw => hG.trans (ExcP.of_ext hw), ?_⟩
            refine WpE.rdD (by exact rfl) (by exact rfl) ?_
            refine ⟨_, fun w' hw => Ix.mk i rfl (by omega) rfl, ?_⟩
            refine uE ?_
            obtain ⟨t, ht, hti⟩ := three hi u hu0 hu1
            refine Ld.mk (hA.cells.out i _ hti) ?_
            refine ⟨Keep.mk fun w' hw => hG.trans (ExcP.of_ext hw), ?_⟩
            refine uM ?_
            refine uD ?_
            repeat (first | refine jC ?_ | refine jN ?_ | refine jS ?_ | refine jR ?_ | refine jT ?_ | refine jB ?_ | refine jX rfl ?_ | refine jY rfl ?_ | refine jK ?_ | refine jD ?_ | refine jE ?_)
            refine LdN.mk hZ rfl ?_
            repeat (first | refine jC ?_ | refine jN ?_ | refine jS ?_ | refine jR ?_ | refine jT ?_ | refine jB ?_ | refine jX rfl ?_ | refine jY rfl ?_ | refine jK ?_ | refine jD ?_ | refine jE ?_)
            exact EndV.mk fun w' hw' => ⟨c, t, rfl, hsm, ht, hB03.trans ((hG.trans (ExcP.of_ext hw')).below hB03.size (by rintro j hj (e | e) <;> omega))⟩
end Go.Proofs.Ytbiaamipfhgfeaa
