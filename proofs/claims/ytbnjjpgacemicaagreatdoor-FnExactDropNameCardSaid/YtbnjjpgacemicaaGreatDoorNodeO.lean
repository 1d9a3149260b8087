/-
  Arguments that are slices of nodes, and of texts.
  Conditions: none.
-/
import Derived.Test.YtbnjjpgacemicaaGreatDoorNode
namespace Go.Proofs.YtbnjjpgacemicaaGreatDoor
open Go.ChangeShapes Go.WideShapes Go.ChangeAt Go.RowKit Go.Deep Vc
set_option maxRecDepth 100000
attribute [local irreducible] WpC WpL WpD CallV QCallV Made AppV Ld LdN Ix EndV I64 MutN Mut CellsAt

/-- A slice of elements of one cell, each of a form. -/
theorem open_row1 {H : Type} {enc : TypeId × Value → H} {P : Program} {w : World} {base : Nat} {held : Bool} {t e : TypeId} {fuel : Nat} {v : Value} {x : DataW H × List MemPlace} {α : Type} {f : α → Value} {Q : α → Prop}
    (ht : P.underlying t = some (.slice e)) (hc : P.cellsOf e = 1)
    (hf : ∀ n u y, DataW.trod enc P w base (fun _ => true) held n e [u] = some y → ∃ a, u = f a ∧ Q a)
    (h : DataW.trod enc P w base (fun _ => true) held fuel t [v] = some x) : ∃ l : List α, Row1 w v (l.map f) ∧ ∀ a ∈ l, Q a := by
  rcases open_slice1 ht hc h with ⟨hcs, hx⟩ | ⟨a, len, cap, m, n, V, D, Pl, hcs, hb, hl, hm, hmm, hx, hi⟩
  · simp at hcs
    subst hcs
    exact ⟨[], ⟨none, 0, rfl, Nat.le_refl _, by omega, fun h => absurd h (by simp)⟩, fun u hu => absurd hu (by simp)⟩
  · simp at hcs
    subst hcs
    simp only [if_true] at hmm
    subst hmm
    have hu : ∀ i, i < len → ∃ u : α, V i = f u ∧ Q u := fun i hil => hf n _ _ (hi i (by omega)).2
    have hl' : ((List.ofFn (fun i : Fin len => (hu i.val i.isLt).choose)).map f).length = len := by simp
    refine ⟨List.ofFn (fun i : Fin len => (hu i.val i.isLt).choose), ⟨some a, m, by rw [hl'], by rw [hl']; exact hl, by unfold maxLen at hm; exact hm, fun h0 => ?_⟩, fun u hu' => ?_⟩
    · rw [hl'] at h0
      obtain ⟨c0, _⟩ := hi 0 (by omega)
      obtain ⟨b, off, spot⟩ := a
      have hspot : spot = none := by simpa [Addr.add] using World.cell?_spot c0
      subst hspot
      refine ⟨b, off, rfl, CellsAt.mk fun i u hiu => ?_⟩
      obtain ⟨hil, rfl⟩ := List.getElem?_eq_some_iff.1 hiu
      have hil' : i < len := by rw [hl'] at hil; exact hil
      have c1 := (hi i (by omega)).1
      rw [add_plain] at c1
      rw [c1, List.getElem_map, List.getElem_ofFn]
      exact congrArg some (hu i hil').choose_spec.1
    · obtain ⟨i, hil, rfl⟩ := List.getElem_of_mem hu'
      rw [List.getElem_ofFn]
      exact (hu i (by simpa using hil)).choose_spec.2
section
variable {H : Type} {enc : TypeId × Value → H} {P : Program} {w : World} {base : Nat} {spare : Nat → Bool} {held : Bool}
/-- A slice of structs of one-cell fields: each field's cell and its reading. -/
theorem open_slice_flds {t e : TypeId} {fs : Array Field} {fuel : Nat} {cs : List Value} {x : DataW H × List MemPlace} (ht : P.underlying t = some (.slice e)) (he : P.underlying e = some (.struct fs))
    (hone : oneCellFields P fs = true) (hC : P.cellsOf e = fs.size) (h : DataW.trod enc P w base spare held fuel t cs = some x) :
    (cs = [.slice none 0 0] ∧ x = (.nil, [])) ∨
    ∃ (a : Addr) (len cap m : Nat) (D : Nat → DataW H) (Pl : Nat → List MemPlace), cs = [.slice (some a) len cap] ∧ base ≤ a.block ∧ len ≤ cap ∧ cap ≤ maxLen ∧ m = (if spare a.block then cap else len) ∧
      x = (.slice ((List.range len).map D) ((List.range (m - len)).map fun j => D (len + j)), MemPlace.row a (m * fs.size) ++ (List.range m).flatMap Pl) ∧
      ∀ i, i < m → ∃ (ys : List (DataW H × List MemPlace)) (n : Nat), D i = .agg (ys.map (·.1)) ∧ Pl i = ys.flatMap (·.2) ∧ ys.length = fs.size ∧
        ∀ (j : Nat) (f : Field), fs[j]? = some f → ∃ (v : Value) (y : DataW H × List MemPlace), w.cell? (a.add (i * fs.size + j)) = some v ∧ ys[j]? = some y ∧ DataW.trod enc P w base spare held n f.type [v] = some y := by
  rcases open_slice ht h with h0 | ⟨a, len, cap, m, n, D, Pl, hcs, hb, hl, hm, hmm, hx, hi⟩
  · exact .inl h0
  · refine .inr ⟨a, len, cap, m, D, Pl, hcs, hb, hl, hm, hmm, by rw [hC] at hx; exact hx, fun i him => ?_⟩
    obtain ⟨cs', hc, ht'⟩ := hi i him
    rw [hC] at hc
    obtain ⟨ys, n', hn', hy, hlen, hyl, hf⟩ := DataW.trod_struct he ht'
    obtain ⟨_, hcl, hat⟩ := World.cells?_some hc
    simp only [Prod.mk.injEq] at hy
    refine ⟨ys, n', hy.1, hy.2, hyl, fun j f hj => ?_⟩
    obtain ⟨ho, hk⟩ := hone_of hone j f hj
    have hjl : j < fs.size := (Array.getElem?_eq_some_iff.1 hj).1
    have hcell := hat j hjl
    have hv : cs'[j]? = some (cs'[j]'(by omega)) := List.getElem?_eq_getElem (by omega)
    have h1 := hf j f hj
    rw [ho, hk] at h1
    have hone' : (cs'.drop j).take 1 = [cs'[j]'(by omega)] := by
      rw [List.drop_eq_getElem_cons (by omega)]
      rfl
    rw [hone'] at h1
    have hys : ys[j]? = some (ys[j]'(by omega)) := List.getElem?_eq_getElem (by omega)
    refine ⟨_, _, ?_, hys, h1.trans hys⟩
    rw [← Go.Deep.add_add, hcell, hv]
end

theorem open_texts {H : Type} {enc : TypeId × Value → H} {W : World} {base : Nat} {fuel : Nat} {v : Value} {x : DataW H × List MemPlace}
    (h : DataW.trod enc Tryz.prog W base (fun _ => true) true fuel 42 [v] = some x) : ∃ l : List ByteArray, Row1 W v (strs l) ∧ ∀ s ∈ l, s.size ≤ 9223372036854775807 :=
  open_row1 Tryz.underlying42 (by kernel_rfl) (fun n u y hy => by
    obtain ⟨s, e0, _, hs⟩ := DataW.trod_string Tryz.underlying9 hy
    simp only [List.cons.injEq, and_true] at e0
    exact ⟨s, e0, hs⟩) h
/-- An argument that is a slice of texts. -/
theorem open_strs {H : Type} {enc : TypeId × Value → H} {W : World} {r : Reach} {b0 base : Nat} {v : Value} {d : DataW H} {p : List MemPlace}
    (hv : Value.okWide Tryz.prog W r b0 42 v) (h : DataW.Trod enc Tryz.prog W base (fun _ => true) true 42 v d p) (_hlt : ∀ x ∈ p, x.block < W.heap.size) : ∃ l : List ByteArray, Row1 W v (strs l) ∧ ∀ s ∈ l, s.size ≤ 9223372036854775807 := by
  obtain ⟨a0, len, cap, rfl⟩ := okWide_slice Tryz.underlying42 hv
  obtain ⟨fuel, hf⟩ := h
  exact open_texts (by simpa [Value.cells] using hf)
theorem open_kids {H : Type} {enc : TypeId × Value → H} {W : World} {base : Nat} {fuel : Nat} {v : Value} {x : DataW H × List MemPlace}
    (h : DataW.trod enc Tryz.prog W base (fun _ => true) true fuel 43 [v] = some x) : ∃ l : List Int, Row1 W v (ints l) ∧ ∀ k ∈ l, (Lit.int .i64 k).wf = true :=
  open_row1 Tryz.underlying43 (by kernel_rfl) (fun n u y hy => by
    obtain ⟨s, e0, _, hs⟩ := DataW.trod_int Tryz.underlying3 hy
    simp only [List.cons.injEq, and_true] at e0
    exact ⟨s, e0, hs⟩) h
theorem cellsNode : Tryz.prog.cellsOf 45 = 7 := by kernel_rfl
/-- An argument that is a slice of nodes. -/
theorem open_nodes {H : Type} {enc : TypeId × Value → H} {W : World} {r : Reach} {b0 base : Nat} {v : Value} {d : DataW H} {p : List MemPlace}
    (hv : Value.okWide Tryz.prog W r b0 22 v) (h : DataW.Trod enc Tryz.prog W base (fun _ => true) true 22 v d p) (_hlt : ∀ x ∈ p, x.block < W.heap.size) : ∃ ts, Tree W v ts ∧ ∀ n ∈ ts, n.wf := by
  obtain ⟨a0, len, cap, rfl⟩ := okWide_slice Tryz.underlying22 hv
  obtain ⟨fuel, hf⟩ := h
  rcases open_slice_flds Tryz.underlying22 Tryz.underlying45 (by kernel_rfl) cellsNode hf with ⟨hcs, hx⟩ | ⟨a, len', cap', m, D, Pl, hcs, hb, hl, hm, hmm, hx, hi⟩
  · simp [Value.cells] at hcs
    obtain ⟨rfl, rfl, rfl⟩ := hcs
    exact ⟨[], ⟨none, 0, rfl, Nat.le_refl _, by omega, fun h => absurd h (by simp)⟩, fun u hu => absurd hu (by simp)⟩
  · simp [Value.cells] at hcs
    obtain ⟨rfl, rfl, rfl⟩ := hcs
    simp only [if_true] at hmm
    subst hmm
    have hu : ∀ i, i < len → ∃ u : Nd, u.wf ∧ ∃ nv kv, NdIn W u nv kv ∧ ∀ j x, (u.cells nv kv)[j]? = some x → W.cell? (a.add (i * 7 + j)) = some x := by
      intro i hil
      obtain ⟨ys, n, _, _, _, hf⟩ := hi i (by omega)
      obtain ⟨v0, y0, c0, _, t0⟩ := hf 0 _ rfl
      obtain ⟨v1, y1, c1, _, t1⟩ := hf 1 _ rfl
      obtain ⟨v2, y2, c2, _, t2⟩ := hf 2 _ rfl
      obtain ⟨v3, y3, c3, _, t3⟩ := hf 3 _ rfl
      obtain ⟨v4, y4, c4, _, t4⟩ := hf 4 _ rfl
      obtain ⟨v5, y5, c5, _, t5⟩ := hf 5 _ rfl
      obtain ⟨v6, y6, c6, _, t6⟩ := hf 6 _ rfl
      obtain ⟨b0, e0, _⟩ := DataW.trod_bool Tryz.underlying4 t0
      obtain ⟨n1, e1, _, w1⟩ := DataW.trod_int Tryz.underlying3 t1
      obtain ⟨n2, e2, _, w2⟩ := DataW.trod_int Tryz.underlying3 t2
      obtain ⟨n3, e3, _, w3⟩ := DataW.trod_int Tryz.underlying3 t3
      obtain ⟨s, e4, _, hs⟩ := DataW.trod_string Tryz.underlying9 t4
      obtain ⟨nm, r5, w5⟩ := open_texts t5
      obtain ⟨kd, r6, w6⟩ := open_kids t6
      simp only [List.cons.injEq, and_true] at e0 e1 e2 e3 e4
      subst e0 e1 e2 e3 e4
      refine ⟨⟨b0, n1, n2, n3, s, nm, kd⟩, ⟨w1, w2, w3, hs, w5, w6⟩, v5, v6, ⟨r5, r6⟩, fun j x hj => ?_⟩
      match j with
      | 0 => cases hj; exact c0
      | 1 => cases hj; exact c1
      | 2 => cases hj; exact c2
      | 3 => cases hj; exact c3
      | 4 => cases hj; exact c4
      | 5 => cases hj; exact c5
      | 6 => cases hj; exact c6
      | j + 7 => simp at hj
    have hus : ∃ us : List Nd, us.length = len ∧ ∀ i u, us[i]? = some u → u.wf ∧ ∃ nv kv, NdIn W u nv kv ∧ ∀ j x, (u.cells nv kv)[j]? = some x → W.cell? (a.add (i * 7 + j)) = some x := by
      refine ⟨List.ofFn (fun i : Fin len => (hu i.val i.isLt).choose), by simp, fun i u hiu => ?_⟩
      obtain ⟨hil, rfl⟩ := List.getElem?_eq_some_iff.1 hiu
      rw [List.getElem_ofFn]
      exact (hu i (by simpa using hil)).choose_spec
    obtain ⟨us, rfl, hus⟩ := hus
    refine ⟨us, ⟨some a, _, rfl, hl, by unfold maxLen at hm; exact hm, fun h0 => ?_⟩, fun u hu => ?_⟩
    · obtain ⟨_, nv, kv, _, c0⟩ := hus 0 _ (List.getElem?_eq_getElem h0)
      have c0 := c0 0 _ rfl
      obtain ⟨b, off, spot⟩ := a
      have hspot : spot = none := by simpa [Addr.add] using World.cell?_spot c0
      subst hspot
      refine ⟨b, off, rfl, World.block_lt_of_cell? W _ c0, fun i u hu => ?_⟩
      obtain ⟨_, nv, kv, hN, c⟩ := hus i u hu
      refine ⟨nv, kv, CellsAt.mk fun j v hj => ?_, hN⟩
      have := c j v hj
      rw [add_plain, ← Nat.add_assoc] at this
      exact this
    · obtain ⟨i, hil, rfl⟩ := List.getElem_of_mem hu
      exact (hus i _ (List.getElem?_eq_getElem hil)).1
end Go.Proofs.YtbnjjpgacemicaaGreatDoor
