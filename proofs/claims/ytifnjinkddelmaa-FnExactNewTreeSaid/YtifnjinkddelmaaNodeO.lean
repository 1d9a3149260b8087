/-
  Arguments that are slices of nodes, and of texts.
  Conditions: none.
-/
import Derived.Test.YtifnjinkddelmaaNode
namespace Go.Proofs.Ytifnjinkddelmaa
open Go.ChangeShapes Go.WideShapes Go.ChangeAt Go.RowKit Go.Deep Vc
set_option maxRecDepth 100000
attribute [local irreducible] WpC WpL WpD CallV QCallV Made AppV Ld LdN Ix EndV I64 MutN Mut CellsAt

/-- A slice of elements of one cell, each of a form. -/
theorem open_row1 {H : Type} {enc : TypeId × Value → H} {P : Program} {w : World} {base : Nat} {held : Bool} {t e : TypeId} {fuel : Nat} {v : Value} {x : DataW H × List MemPlace} {α : Type} {f : α → Value} {Q : α → Prop}
    (ht : P.underlying t = some (.slice e)) (hc : P.cellsOf e = 1)
    (hf : ∀ n u y, DataW.trod enc P w base (fun _ => true) held n e [u] = some y → ∃ a, u = f a ∧ Q a)
    (h : DataW.trod enc P w base (fun _ => true) held fuel t [v] = some x) : ∃ l : List α, Row1 w v (l.map f) ∧ ∀ a ∈ l, Q a := by
  rcases open_slice1 ht hc h with ⟨hcs, hx⟩ | ⟨a, len, cap, m, n, V, D, Pl, hcs, hb, hl, hm, hmm, hx, hi⟩
  · simp at hcs
    subst hcs
    exact ⟨[], ⟨none, 0, rfl, Nat.le_refl _, by omega, fun h => absurd h (by simp)⟩, fun u hu => absurd hu (by simp)⟩
  · simp at hcs
    subst hcs
    simp only [if_true] at hmm
    subst hmm
    have hu : ∀ i, i < len → ∃ u : α, V i = f u ∧ Q u := fun i hil => hf n _ _ (hi i (by omega)).2
    have hl' : ((List.ofFn (fun i : Fin len => (hu i.val i.isLt).choose)).map f).length = len := by simp
    refine ⟨List.ofFn (fun i : Fin len => (hu i.val i.isLt).choose), ⟨some a, m, by rw [hl'], by rw [hl']; exact hl, by unfold maxLen at hm; exact hm, fun h0 => ?_⟩, fun u hu' => ?_⟩
    · rw [hl'] at h0
      obtain ⟨c0, _⟩ := hi 0 (by omega)
      obtain ⟨b, off, spot⟩ := a
      have hspot : spot = none := by simpa [Addr.add] using World.cell?_spot c0
      subst hspot
      refine ⟨b, off, rfl, CellsAt.mk fun i u hiu => ?_⟩
      obtain ⟨hil, rfl⟩ := List.getElem?_eq_some_iff.1 hiu
      have hil' : i < len := by rw [hl'] at hil; exact hil
      have c1 := (hi i (by omega)).1
      rw [add_plain] at c1
      rw [c1, List.getElem_map, List.getElem_ofFn]
      exact congrArg some (hu i hil').choose_spec.1
    · obtain ⟨i, hil, rfl⟩ := List.getElem_of_mem hu'
      rw [List.getElem_ofFn]
      exact (hu i (by simpa using hil)).choose_spec.2
section
variable {H : Type} {enc : TypeId × Value → H} {P : Program} {w : World} {base : Nat} {spare : Nat → Bool} {held : Bool}
/-- A slice of structs of one-cell fields: each field's cell and its reading. -/
theorem open_slice_flds {t e : TypeId} {fs : Array Field} {fuel : Nat} {cs : List Value} {x : DataW H × List MemPlace} (ht : P.underlying t = some (.slice e)) (he : P.underlying e = some (.struct fs))
    (hone : oneCellFields P fs = true) (hC : P.cellsOf e = fs.size) (h : DataW.trod enc P w base spare held fuel t cs = some x) :
    (cs = [.slice none 0 0] ∧ x = (.nil, [])) ∨
    ∃ (a : Addr) (len cap m : Nat) (D : Nat → DataW H) (Pl : Nat → List MemPlace), cs = [.slice (some a) len cap] ∧ base ≤ a.block ∧ len ≤ cap ∧ cap ≤ maxLen ∧ m = (if spare a.block then cap else len) ∧
      x = (.slice ((List.range len).map D) ((List.range (m - len)).map fun j => D (len + j)), MemPlace.row a (m * fs.size) ++ (List.range m).flatMap Pl) ∧
      ∀ i, i < m → ∃ (ys : List (DataW H × List MemPlace)) (n : Nat), D i = .agg (ys.map (·.1)) ∧ Pl i = ys.flatMap (·.2) ∧ ys.length = fs.size ∧
        ∀ (j : Nat) (f : Field), fs[j]? = some f → ∃ (v : Value) (y : DataW H × List MemPlace), w.cell? (a.add (i * fs.size + j)) = some v ∧ ys[j]? = some y ∧ DataW.trod enc P w base spare held n f.type [v] = some y := by
  rcases open_slice ht h with h0 | ⟨a, len, cap, m, n, D, Pl, hcs, hb, hl, hm, hmm, hx, hi⟩
  · exact .inl h0
  · refine .inr ⟨a, len, cap, m, D, Pl, hcs, hb, hl, hm, hmm, by rw [hC] at hx; exact hx, fun i him => ?_⟩
    obtain ⟨cs', hc, ht'⟩ := hi i him
    rw [hC] at hc
    obtain ⟨ys, n', hn', hy, hlen, hyl, hf⟩ := DataW.trod_struct he ht'
    obtain ⟨_, hcl, hat⟩ := World.cells?_some hc
    simp only [Prod.mk.injEq] at hy
    refine ⟨ys, n', hy.1, hy.2, hyl, fun j f hj => ?_⟩
    obtain ⟨ho, hk⟩ := hone_of hone j f hj
    have hjl : j < fs.size := (Array.getElem?_eq_some_iff.1 hj).1
    have hcell := hat j hjl
    have hv : cs'[j]? = some (cs'[j]'(by omega)) := List.getElem?_eq_getElem (by omega)
    have h1 := hf j f hj
    rw [ho, hk] at h1
    have hone' : (cs'.drop j).take 1 = [cs'[j]'(by omega)] := by
      rw [List.drop_eq_getElem_cons (by omega)]
      rfl
    rw [hone'] at h1
    have hys : ys[j]? = some (ys[j]'(by omega)) := List.getElem?_eq_getElem (by omega)
    refine ⟨_, _, ?_, hys, h1.trans hys⟩
    rw [← Go.Deep.add_add, hcell, hv]
end

theorem open_texts {H : Type} {enc : TypeId × Value → H} {W : World} {base : Nat} {fuel : Nat} {v : Value} {x : DataW H × List MemPlace}
    (h : DataW.trod enc Try.prog W base (fun _ => true) true fuel 84 [v] = some x) : ∃ l : List ByteArray, Row1 W v (strs l) ∧ ∀ s ∈ l, s.size ≤ 9223372036854775807 :=
  open_row1 Try.underlying84 (by kernel_rfl) (fun n u y hy => by
    obtain ⟨s, e0, _, hs⟩ := DataW.trod_string Try.underlying9 hy
    simp only [List.cons.injEq, and_true] at e0
    exact ⟨s, e0, hs⟩) h
/-- An argument that is a slice of texts. -/
theorem open_strs {H : Type} {enc : TypeId × Value → H} {W : World} {r : Reach} {b0 base : Nat} {v : Value} {d : DataW H} {p : List MemPlace}
    (hv : Value.okWide Try.prog W r b0 84 v) (h : DataW.Trod enc Try.prog W base (fun _ => true) true 84 v d p) (_hlt : ∀ x ∈ p, x.block < W.heap.size) : ∃ l : List ByteArray, Row1 W v (strs l) ∧ ∀ s ∈ l, s.size ≤ 9223372036854775807 := by
  obtain ⟨a0, len, cap, rfl⟩ := okWide_slice Try.underlying84 hv
  obtain ⟨fuel, hf⟩ := h
  exact open_texts (by simpa [Value.cells] using hf)
end Go.Proofs.Ytifnjinkddelmaa
