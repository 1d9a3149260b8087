/-
  The reader of the draws, in the calculus of conditions.
  Conditions: none.
-/
import Derived.Test.YtlnlpholhnbifaaDoorDraws
import Derived.Test.YtlnlpholhnbifaaDoorTabE
import Derived.Test.YtlnlpholhnbifaaDoorVcP
import Derived.Test.YtlnlpholhnbifaaDoorExcP
namespace Go.Proofs.YtlnlpholhnbifaaDoor
open Go.RowKit Vc
set_option linter.unusedVariables false
set_option maxHeartbeats 400000
attribute [local irreducible] WpC WpL WpD WpE WpB CallV QCallV Made AppV Ld LdN Ix EndV I64 MutN Mut CellsAt

section
variable {P : Program} {f : FuncId} {args : Array Value} {H : List OE} {A : World} {K : Value → List OE → World → Prop} {g p : Nat}
theorem OwnAt.grown {w w' : World} (h : OwnAt H w) (hg : w.grownBy w' (some g)) (hne : OwnNe H g) : OwnAt H w' :=
  ⟨fun i o hi => (hg.block o.blk (h.lt hi) (fun e => hne.out hi (Option.some.inj e))).trans (h.1 i o hi), h.2⟩
/-- A call that turns block g alone. -/
theorem CallV.grow (g : Nat) (hne : OwnNe H g) (Φ : Value → World → World → Prop)
    (h : ∀ w, Ext A w → OwnAt H w → Calls P f args w (fun e w' => ∃ v, e = .returned v ∧ Φ v w w' ∧ w.grownBy w' (some g)))
    (k : ∀ v w w', Ext A w → OwnAt H w → Φ v w w' → w.grownBy w' (some g) → K v H w') : CallV P f args H A K := by
  unfold CallV
  exact ⟨fun v w w' => Φ v w w' ∧ w.grownBy w' (some g), h, fun v w w' h1 h2 ⟨hp, hg⟩ => ⟨w', H, ⟨[], by simp⟩, Ext.refl _, OwnAt.grown h2 hg hne, k v w w' h1 h2 hp hg⟩⟩
theorem CallV.pk {c : Nat} {lo hi : Int} (hne : OwnNe H g) (h : ∀ w, Ext A w → OwnAt H w → Calls P f args w (Pk c lo hi g p w))
    (k : ∀ (x : Int) (p' : Nat) w w', Ext A w → lo ≤ x → x ≤ hi → p' ≤ p + c → Rd w' g p' → w.grownBy w' (some g) → K (.int .i64 x) H w') : CallV P f args H A K :=
  CallV.grow g hne (fun v w w' => ∃ (x : Int) (p' : Nat), v = .int .i64 x ∧ lo ≤ x ∧ x ≤ hi ∧ p' ≤ p + c ∧ Rd w' g p')
    (fun w h1 h2 => (h w h1 h2).mono fun e w' ⟨x, p', e1, h3, h4, h5, h6, h7⟩ => ⟨_, e1, ⟨x, p', rfl, h3, h4, h5, h6⟩, h7⟩)
    (fun v w w' h1 _ ⟨x, p', e1, h3, h4, h5, h6⟩ h7 => e1 ▸ k x p' w w' h1 h3 h4 h5 h6 h7)
/-- A number below n. -/
theorem CallV.pick {n : Int} (hne : OwnNe H g) (hn : 1 ≤ n) (h : ∀ w, Ext A w → OwnAt H w → Calls P f args w (Picked g p n w))
    (k : ∀ (j : Nat) w w', Ext A w → (j : Int) < n → Rd w' g (p + 1) → w.grownBy w' (some g) → K (.int .i64 (j : Int)) H w') : CallV P f args H A K :=
  CallV.grow g hne (fun v w w' => ∃ j : Nat, v = .int .i64 (j : Int) ∧ (j : Int) < n ∧ Rd w' g (p + 1))
    (fun w h1 h2 => (h w h1 h2).mono fun e w' ⟨x, e1, h3, h4, h5, h6, h7⟩ => ⟨_, e1, ⟨x.toNat, by rw [Int.toNat_of_nonneg h3], by rw [Int.toNat_of_nonneg h3]; exact h4 hn, h6⟩, h7⟩)
    (fun v w w' h1 _ ⟨j, e1, h3, h4⟩ h7 => e1 ▸ k j w w' h1 h3 h4 h7)
theorem CallV.pkB {c : Nat} (hne : OwnNe H g) (h : ∀ w, Ext A w → OwnAt H w → Calls P f args w (PkB c g p w))
    (k : ∀ (x : Bool) (p' : Nat) w w', Ext A w → p' ≤ p + c → Rd w' g p' → w.grownBy w' (some g) → K (.bool x) H w') : CallV P f args H A K :=
  CallV.grow g hne (fun v w w' => ∃ (x : Bool) (p' : Nat), v = .bool x ∧ p' ≤ p + c ∧ Rd w' g p')
    (fun w h1 h2 => (h w h1 h2).mono fun e w' ⟨x, p', e1, h5, h6, h7⟩ => ⟨_, e1, ⟨x, p', rfl, h5, h6⟩, h7⟩)
    (fun v w w' h1 _ ⟨x, p', e1, h5, h6⟩ h7 => e1 ▸ k x p' w w' h1 h5 h6 h7)
theorem CallV.pkS {c m : Nat} (hne : OwnNe H g) (h : ∀ w, Ext A w → OwnAt H w → Calls P f args w (PkS c m g p w))
    (k : ∀ (s : ByteArray) (p' : Nat) w w', Ext A w → s.size ≤ m → p' ≤ p + c → Rd w' g p' → w.grownBy w' (some g) → K (.string s) H w') : CallV P f args H A K :=
  CallV.grow g hne (fun v w w' => ∃ (s : ByteArray) (p' : Nat), v = .string s ∧ s.size ≤ m ∧ p' ≤ p + c ∧ Rd w' g p')
    (fun w h1 h2 => (h w h1 h2).mono fun e w' ⟨s, p', e1, h4, h5, h6, h7⟩ => ⟨_, e1, ⟨s, p', rfl, h4, h5, h6⟩, h7⟩)
    (fun v w w' h1 _ ⟨s, p', e1, h4, h5, h6⟩ h7 => e1 ▸ k s p' w w' h1 h4 h5 h6 h7)
/-- The reader is opened. -/
theorem CallV.open_ (hne : ∀ w g, Ext A w → OwnAt H w → w.heap.size ≤ g → OwnNe H g) (h : ∀ w, Ext A w → OwnAt H w → Calls P f args w fun e w' => ∃ g, e = .returned (.pointer (some ⟨g, 0, none⟩)) ∧ w.heap.size ≤ g ∧ Rd w' g 0 ∧ Below w.heap.size w w')
    (k : ∀ g w w', Ext A w → OwnNe H g → w.heap.size ≤ g → Rd w' g 0 → Ext w w' → K (.pointer (some ⟨g, 0, none⟩)) H w') : CallV P f args H A K :=
  CallV.mem (fun v w w' => ∃ g, v = .pointer (some ⟨g, 0, none⟩) ∧ w.heap.size ≤ g ∧ Rd w' g 0)
    (fun w h1 h2 => (h w h1 h2).mono fun e w' ⟨g, e1, h3, h4, h5⟩ => ⟨_, e1, ⟨g, rfl, h3, h4⟩, h5⟩)
    (fun v w w' h1 h2 h3 ⟨g, e1, h4, h5⟩ => e1 ▸ k g w w' h1 (hne w g h1 h3 h4) h4 h5 h2)
theorem OwnNe.far {w : World} (h : OwnAt H w) (hg : w.heap.size ≤ g) : OwnNe H g := OwnNe.of fun i o hi e => by have := h.lt hi; omega
end
/-- Cells in a block that stands still. -/
structure Fr (w : World) (S : Nat → Prop) (b : Nat) (l : List Value) : Prop where
  cells : CellsAt w b 0 l
  lt : b < w.heap.size
  ne : ¬ S b
theorem Fr.ext {w w' : World} {S : Nat → Prop} {b : Nat} {l : List Value} (h : Fr w S b l) (hx : Ext w w') : Fr w' S b l := ⟨h.cells.ext hx, Nat.lt_of_lt_of_le h.lt hx.size, h.ne⟩
theorem Fr.exc {w w' : World} {S : Nat → Prop} {b : Nat} {l : List Value} (h : Fr w S b l) (hX : ExcP S w w') : Fr w' S b l := ⟨h.cells.exc h.lt hX h.ne, Nat.lt_of_lt_of_le h.lt hX.size, h.ne⟩
theorem Fr.of_block {w : World} {S : Nat → Prop} {b : Nat} {cs : List Value} {t : TypeId} {fr : Nat × Nat} (h : w.heap[b]? = some (.cells cs.toArray t fr)) (hb : b < w.heap.size) (hne : ¬ S b) : Fr w S b cs := ⟨CellsAt.of_block h fun i v hi => by rw [Nat.zero_add]; exact hi, hb, hne⟩
theorem Fr.setL {w : World} {S : Nat → Prop} {b g o : Nat} {l m : List Value} (h : Fr w S b l) (hg : S g) : Fr (setL w g o m) S b l := h.exc ((ExcP.refl S w).setL hg m o)
theorem ExcP.grown {w w' : World} {S : Nat → Prop} {g : Nat} (h : w.grownBy w' (some g)) (hS : S g) : ExcP S w w' := ⟨h.os, h.tape, h.output, h.size, fun j h1 h2 => h.block j h1 (fun e => h2 (by cases e; exact hS))⟩
theorem grown_blk {w w' : World} {g b : Nat} {o : Obj} (h : w.grownBy w' (some g)) (hne : b ≠ g) (hb : b < w.heap.size) (hq : w.heap[b]? = some o) : w'.heap[b]? = some o := (h.block b hb (fun e => hne (Option.some.inj e))).trans hq
theorem grown_ext {w w' w'' : World} {g : Nat} (h : w.grownBy w' (some g)) (hx : Ext w' w'') : w.grownBy w'' (some g) := grown_trans h (below_grown hx)
theorem ext_grown {w w' w'' : World} {g : Nat} (hx : Ext w w') (h : w'.grownBy w'' (some g)) : w.grownBy w'' (some g) := grown_trans (below_grown hx) h

end Go.Proofs.YtlnlpholhnbifaaDoor
