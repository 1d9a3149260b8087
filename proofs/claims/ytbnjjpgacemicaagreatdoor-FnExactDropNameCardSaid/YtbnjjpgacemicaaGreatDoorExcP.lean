/-
  Worlds of which some blocks alone have turned.
  Conditions: none.
-/
import Derived.Test.YtbnjjpgacemicaaGreatDoorMark
namespace Go.Proofs.YtbnjjpgacemicaaGreatDoor
open Go.RowKit Vc
attribute [local irreducible] WpC WpL WpD CallV QCallV Made AppV Ld LdN Ix EndV I64 MutN Mut CellsAt

/-- Nothing but some blocks, of those that were there, has turned. -/
structure ExcP (S : Nat → Prop) (w w' : World) : Prop where
  os : w'.os = w.os
  tape : w'.tape = w.tape
  output : w'.output = w.output
  size : w.heap.size ≤ w'.heap.size
  block : ∀ j, j < w.heap.size → ¬ S j → w'.heap[j]? = w.heap[j]?
theorem ExcP.refl (S : Nat → Prop) (w : World) : ExcP S w w := ⟨rfl, rfl, rfl, Nat.le_refl _, fun _ _ _ => rfl⟩
theorem ExcP.mono {S S' : Nat → Prop} {w w' : World} (h : ExcP S w w') (hS : ∀ j, S j → S' j) : ExcP S' w w' := ⟨h.os, h.tape, h.output, h.size, fun j h1 h2 => h.block j h1 fun h3 => h2 (hS j h3)⟩
theorem ExcP.trans {S : Nat → Prop} {a b c : World} (h : ExcP S a b) (k : ExcP S b c) : ExcP S a c :=
  ⟨k.os.trans h.os, k.tape.trans h.tape, k.output.trans h.output, Nat.le_trans h.size k.size, fun j h1 h2 => (k.block j (Nat.lt_of_lt_of_le h1 h.size) h2).trans (h.block j h1 h2)⟩
theorem ExcP.of_ext {S : Nat → Prop} {w w' : World} (h : Ext w w') : ExcP S w w' := ⟨h.os, h.tape, h.output, h.size, fun j h1 _ => h.block j h1⟩
theorem ExcP.of_exc {g : Nat} {w w' : World} (h : Exc g w w') : ExcP (fun j => j = g) w w' := ⟨h.os, h.tape, h.output, h.size, fun j h1 h2 => h.block j h1 h2⟩
theorem ExcP.setL {S : Nat → Prop} {A w : World} {g : Nat} (h : ExcP S A w) (hg : S g) (l : List Value) (o : Nat) : ExcP S A (setL w g o l) := by
  obtain ⟨r1, r2, r3⟩ := setL_rest g l w o
  exact h.trans ⟨r1, r2, r3, by rw [setL_size]; exact Nat.le_refl _, fun j _ hj => setL_other _ _ (fun e => hj (by rw [e]; exact hg)) _ _⟩
theorem ExcP.agree {S : Nat → Prop} {lo hi : Nat} {w w' : World} (h : ExcP S w w') (hh : hi ≤ w.heap.size) (hS : ∀ j, lo ≤ j → j < hi → ¬ S j) : Agree lo hi w w' := fun j h1 h2 => h.block j (by omega) (hS j h1 h2)
theorem ExcP.below {S : Nat → Prop} {B : Nat} {w w' : World} (h : ExcP S w w') (hs : B ≤ w.heap.size) (hS : ∀ j, j < B → ¬ S j) : Below B w w' := ⟨h.os, h.tape, h.output, h.size, fun j hj => h.block j (by omega) (hS j hj)⟩
theorem Vc.CellsAt.exc {S : Nat → Prop} {w w' : World} {b o : Nat} {l : List Value} (h : CellsAt w b o l) (hb : b < w.heap.size) (hX : ExcP S w w') (hS : ¬ S b) : CellsAt w' b o l :=
  h.agree (lo := b) (hi := b + 1) (hX.agree (by omega) fun j h1 h2 => by rw [show j = b by omega]; exact hS) (Nat.le_refl _) (by omega)
theorem Vc.MutN.exc {S : Nat → Prop} {w w' : World} {b o n : Nat} (h : MutN w b o n) (hb : b < w.heap.size) (hX : ExcP S w w') (hS : ¬ S b) : MutN w' b o n :=
  h.agree (lo := b) (hi := b + 1) (hX.agree (by omega) fun j h1 h2 => by rw [show j = b by omega]; exact hS) (Nat.le_refl _) (by omega)
end Go.Proofs.YtbnjjpgacemicaaGreatDoor
