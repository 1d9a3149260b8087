/-
  Blocks of the call's own are made known to the world: from there on they are read and written as any other.
  Conditions: none.
-/
import Derived.Test.YtbnjjpgacemicaaGreatDoorVcE
namespace Go.Proofs.YtbnjjpgacemicaaGreatDoor.Vc
open Go.RowKit
/-- The slots, where each address of one's own is told as a plain address. -/
def plainK : List (Nat × SV) → List OE → (List (Nat × SV) → Prop) → Prop
  | [], _, K => K []
  | (k, .v x) :: r, H, K => plainK r H fun E => K ((k, .v x) :: E)
  | (k, .own i o) :: r, H, K => match nth H i with
    | some e => plainK r H fun E => K ((k, .v (.pointer (some ⟨e.blk, o, none⟩))) :: E)
    | none => False
theorem plainK_ok {H : List OE} (E : List (Nat × SV)) : ∀ {K : List (Nat × SV) → Prop}, plainK E H K → ∃ E', K E' ∧ ∀ t s, look E' t = some s → ∃ s0, look E t = some s0 ∧ s = .v (den H s0) := by
  induction E with
  | nil => intro K h; exact ⟨[], h, fun t s h => by cases h⟩
  | cons x r ih =>
    obtain ⟨k, s0⟩ := x
    intro K h
    cases s0 with
    | v y =>
      obtain ⟨E', h1, h2⟩ := ih h
      refine ⟨_, h1, fun t s hs => ?_⟩
      rw [look_cons] at hs
      split at hs
      · rename_i e
        cases hs
        exact ⟨.v y, by rw [look_cons, if_pos e], rfl⟩
      · rename_i e
        obtain ⟨s1, h3, h4⟩ := h2 t s hs
        exact ⟨s1, by rw [look_cons, if_neg e]; exact h3, h4⟩
    | own i o =>
      unfold plainK at h
      split at h
      · rename_i e he
        obtain ⟨E', h1, h2⟩ := ih h
        refine ⟨_, h1, fun t s hs => ?_⟩
        rw [look_cons] at hs
        split at hs
        · rename_i e'
          cases hs
          exact ⟨.own i o, by rw [look_cons, if_pos e'], by rw [den, he]⟩
        · rename_i e'
          obtain ⟨s1, h3, h4⟩ := h2 t s hs
          exact ⟨s1, by rw [look_cons, if_neg e']; exact h3, h4⟩
      · exact h.elim
section
variable {P : Program} {C : Cx} {E : List (Nat × SV)} {H : List OE} {A : World}
theorem Sat.plain {n : Nat} {a : Act} {w : World} {K : List (Nat × SV) → Prop} (hS : Sat n ⟨E, H, A⟩ a w) (h : plainK E H K) : ∃ E', K E' ∧ Sat n ⟨E', [], w⟩ a w := by
  obtain ⟨E', h1, h2⟩ := plainK_ok E h
  obtain ⟨a1, a2, a3, a4, a5⟩ := hS
  refine ⟨E', h1, a1, a2, fun t s hs => ?_, Ext.refl _, fun i o hi => (by cases hi), fun i j o p hi => (by cases hi)⟩
  obtain ⟨s0, h3, rfl⟩ := h2 t s hs
  exact ⟨trivial, (a3 t s0 h3).2⟩
theorem WpC.plain {c : Code} {kn kr : St → Prop} {kx : List (Nat × (St → Prop))}
    (h : ∀ w, Ext A w → OwnAt H w → plainK E H fun E' => WpC P C c kn kx kr ⟨E', [], w⟩) : WpC P C c kn kx kr ⟨E, H, A⟩ := by
  intro Q h1 h2 h3 a w hS
  obtain ⟨E', hK, hS'⟩ := hS.plain (h w hS.2.2.2.1 hS.2.2.2.2)
  exact hK Q h1 h2 h3 a w hS'
/-- The world as it is. -/
theorem WpC.now {c : Code} {kn kr : St → Prop} {kx : List (Nat × (St → Prop))}
    (h : ∀ w, Ext A w → OwnAt H w → WpC P C c kn kx kr ⟨E, H, w⟩) : WpC P C c kn kx kr ⟨E, H, A⟩ := by
  intro Q h1 h2 h3 a w hS
  exact h w hS.2.2.2.1 hS.2.2.2.2 Q h1 h2 h3 a w (hS.move (Ext.refl _) hS.2.2.2.2)
end
theorem OwnAt.blk0 {o : OE} {r : List OE} {w : World} (h : OwnAt (o :: r) w) : w.heap[o.blk]? = some (.cells o.cells.toArray o.ty (0, 0)) := h.1 0 o rfl
end Go.Proofs.YtbnjjpgacemicaaGreatDoor.Vc
