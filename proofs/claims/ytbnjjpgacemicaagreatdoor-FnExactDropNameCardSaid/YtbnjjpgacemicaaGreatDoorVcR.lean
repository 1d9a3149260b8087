/-
  The conditions of code suffice.
  Conditions: none.
-/
import Derived.Test.YtbnjjpgacemicaaGreatDoorVcC
namespace Go.Proofs.YtbnjjpgacemicaaGreatDoor.Vc
open Go.RowKit

section
variable {P : Program} {C : Cx} {st : St} {a : Act} {w : World}

theorem Ext.trans' {A : World} {w w' : World} (h : Ext A w) (k : Below A.heap.size w w') : Ext A w' := Below.trans h k
theorem OwnAt.ext {H : List OE} {w w' : World} (h : OwnAt H w) (hx : Ext w w') : OwnAt H w' := by
  refine ⟨fun i o hi => ?_, h.2⟩
  have h1 := h.1 i o hi
  rw [hx.block _ (by
    rcases Nat.lt_or_ge o.blk w.heap.size with hlt | hge
    · exact hlt
    · rw [Array.getElem?_eq_none hge] at h1; cases h1)]
  exact h1
theorem OwnAt.lt {H : List OE} {w : World} (h : OwnAt H w) {i : Nat} {o : OE} (hi : nth H i = some o) : o.blk < w.heap.size := by
  have h1 := h.1 i o hi
  rcases Nat.lt_or_ge o.blk w.heap.size with hlt | hge
  · exact hlt
  · rw [Array.getElem?_eq_none hge] at h1; cases h1
theorem newOE_eq (H : List OE) (b : Nat) (cs : List Value) (t : TypeId) : newOE H b cs t = H ++ [⟨b, cs, t⟩] := by
  induction H with
  | nil => rfl
  | cons x r ih => simp [newOE, ih]
theorem nth_append {α : Type} {l m : List α} {i : Nat} {x : α} (h : nth l i = some x) : nth (l ++ m) i = some x := by
  rw [nth_eq] at *
  rw [List.getElem?_append_left (List.getElem?_eq_some_iff.1 h).1]
  exact h
theorem den_append {H : List OE} {m : List OE} {s : SV} (h : s.ok H) : den (H ++ m) s = den H s := by
  cases s with
  | v x => rfl
  | own i o =>
    have h1 : i < H.length := h
    have h2 : nth H i = some H[i] := by rw [nth_eq]; simp [h1]
    simp [den, h2, nth_append h2]
theorem ok_append {H : List OE} {m : List OE} {s : SV} (h : s.ok H) : s.ok (H ++ m) := by
  cases s with
  | v x => trivial
  | own i o =>
    have h1 : i < H.length := h
    show i < (H ++ m).length
    simp; omega

/-- A new block of the call's own. -/
theorem Sat.push (hS : Sat C.n st a w) (cs : Array Value) (t : TypeId) :
    Sat C.n ⟨st.env, newOE st.own w.heap.size cs.toList t, st.anc⟩ a (w.alloc (.cells cs t)) := by
  obtain ⟨h1, h2, h3, h4, h5⟩ := hS
  have hx : Ext w (w.alloc (.cells cs t)) := (Below.refl _ w).alloc (Nat.le_refl _) _
  refine ⟨h1, h2, fun t' s hs => ?_, h4.trans hx, ?_, ?_⟩
  · obtain ⟨h6, h7⟩ := h3 t' s hs
    simp only [newOE_eq]
    exact ⟨ok_append h6, by rw [h7, den_append h6]⟩
  · intro i o hi
    simp only [newOE_eq] at hi
    rw [nth_eq] at hi
    by_cases hlt : i < st.own.length
    · rw [List.getElem?_append_left hlt] at hi
      exact (h5.ext hx).1 i o (by rw [nth_eq]; exact hi)
    · rw [List.getElem?_append_right (by omega)] at hi
      have : i - st.own.length = 0 := by
        rcases Nat.eq_zero_or_pos (i - st.own.length) with h | h
        · exact h
        · rw [List.getElem?_eq_none (by simp; omega)] at hi; cases hi
      rw [this] at hi
      simp only [List.getElem?_cons_zero, Option.some.injEq] at hi
      subst hi
      exact Array.getElem?_push_size
  · intro i j o p hi hj he
    simp only [newOE_eq] at hi hj
    rw [nth_eq] at hi hj
    have hlast : ∀ k (q : OE), st.own.length ≤ k → (st.own ++ [⟨w.heap.size, cs.toList, t⟩])[k]? = some q → k = st.own.length ∧ q.blk = w.heap.size := by
      intro k q hk hq
      rw [List.getElem?_append_right hk] at hq
      have : k - st.own.length = 0 := by
        rcases Nat.eq_zero_or_pos (k - st.own.length) with h | h
        · exact h
        · rw [List.getElem?_eq_none (by simp; omega)] at hq; cases hq
      rw [this] at hq
      simp only [List.getElem?_cons_zero, Option.some.injEq] at hq
      subst hq
      exact ⟨by omega, rfl⟩
    have hold : ∀ k (q : OE), k < st.own.length → (st.own ++ [⟨w.heap.size, cs.toList, t⟩])[k]? = some q → nth st.own k = some q := by
      intro k q hk hq
      rw [List.getElem?_append_left hk] at hq
      rw [nth_eq]; exact hq
    rcases Nat.lt_or_ge i st.own.length with hi2 | hi2 <;> rcases Nat.lt_or_ge j st.own.length with hj2 | hj2
    · exact h5.2 i j o p (hold i o hi2 hi) (hold j p hj2 hj) he
    · have := h5.lt (hold i o hi2 hi)
      have := (hlast j p hj2 hj).2
      omega
    · have := h5.lt (hold j p hj2 hj)
      have := (hlast i o hi2 hi).2
      omega
    · rw [(hlast i o hi2 hi).1, (hlast j p hj2 hj).1]

/-- A world of which nothing known before has turned. -/
theorem Sat.move {w' anc' : World} (hS : Sat C.n st a w) (hx : Ext anc' w') (hO : OwnAt st.own w') : Sat C.n ⟨st.env, st.own, anc'⟩ a w' := by
  obtain ⟨h1, h2, h3, _, _⟩ := hS
  exact ⟨h1, h2, h3, hx, hO⟩
theorem Sat.ext {w' : World} (hS : Sat C.n st a w) (hx : Ext w w') : Sat C.n st a w' := by
  obtain ⟨h1, h2, h3, h4, h5⟩ := hS
  exact ⟨h1, h2, h3, h4.trans hx, h5.ext hx⟩

theorem OwnNe.out {H : List OE} {b : Nat} (h : OwnNe H b) {i : Nat} {o : OE} (hi : nth H i = some o) : o.blk ≠ b := by
  induction H generalizing i with
  | nil => cases hi
  | cons x r ih => cases i with
    | zero => cases hi; exact h.1
    | succ i => exact ih h.2 hi
theorem OwnNe.of {H : List OE} {b : Nat} (h : ∀ i o, nth H i = some o → o.blk ≠ b) : OwnNe H b := by
  induction H with
  | nil => trivial
  | cons x r ih => exact ⟨h 0 x rfl, ih fun i o hi => h (i + 1) o hi⟩

/-! ### Stores -/
theorem setL_size (b : Nat) (l : List Value) : ∀ (w : World) (o : Nat), (setL w b o l).heap.size = w.heap.size := by
  induction l with
  | nil => intro w o; rfl
  | cons v r ih => intro w o; rw [setL, ih]; simp
theorem setL_other (b : Nat) (l : List Value) {k : Nat} (hk : k ≠ b) : ∀ (w : World) (o : Nat), (setL w b o l).heap[k]? = w.heap[k]? := by
  induction l with
  | nil => intro w o; rfl
  | cons v r ih => intro w o; rw [setL, ih, Below.heap_setCell _ _ _ _ hk]
theorem setL_rest (b : Nat) (l : List Value) : ∀ (w : World) (o : Nat), (setL w b o l).os = w.os ∧ (setL w b o l).tape = w.tape ∧ (setL w b o l).output = w.output := by
  induction l with
  | nil => intro w o; exact ⟨rfl, rfl, rfl⟩
  | cons v r ih => intro w o; rw [setL]; exact ih _ _
theorem heap_set (w : World) (b o : Nat) (u : Value) {cs : Array Value} {t : TypeId} {fr : Nat × Nat} (h : w.heap[b]? = some (.cells cs t fr)) : (w.setCell ⟨b, o, none⟩ u).heap[b]? = some (.cells (cs.setIfInBounds o u) t fr) := by
  simp [World.setCell, Array.getElem?_modify, h]
theorem putL_length (l : List Value) : ∀ (cs : List Value) (o : Nat), (putL cs o l).length = cs.length := by
  induction l with
  | nil => intro cs o; cases cs <;> rfl
  | cons v r ih => intro cs o; rw [putL, ih, putAt_eq, List.length_set]
theorem setL_here (b : Nat) (t : TypeId) (fr : Nat × Nat) (l : List Value) : ∀ (w : World) (o : Nat) (cs : List Value), w.heap[b]? = some (.cells cs.toArray t fr) → (setL w b o l).heap[b]? = some (.cells (putL cs o l).toArray t fr) := by
  induction l with
  | nil => intro w o cs h; rw [setL, h]; cases cs <;> rfl
  | cons v r ih =>
    intro w o cs h
    rw [setL, putL]
    refine ih _ _ _ ?_
    rw [heap_set w b o v h, putAt_eq]
    simp
theorem MutN.set {w : World} {b o n : Nat} (h : MutN w b o n) (o' : Nat) (v : Value) : MutN (w.setCell ⟨b, o', none⟩ v) b o n := by
  intro i hi
  obtain ⟨⟨u, h1⟩, h2⟩ := h i hi
  obtain ⟨v', hv⟩ := cell?_setCell_some (w := w) (p := ⟨b, o', none⟩) (x := v) (q := ⟨b, o + i, none⟩) (v := u) h1
  exact ⟨⟨v', hv⟩, by rw [← h2]; exact World.frozen?_setCell _ _ _ _⟩
theorem run_storeCells (P : Program) (b o : Nat) (l : List Value) : ∀ (w : World) (i : Nat), MutN w b (o + i) l.length → (∀ c, c ∈ l → c.oneCell' = true) → (storeCells ⟨b, o, none⟩ l i).run P w = .ok () (setL w b (o + i) l) := by
  induction l with
  | nil => intro w i _ _; simp [storeCells, setL]
  | cons v r ih =>
    intro w i hm h1
    obtain ⟨⟨u, hc⟩, hf⟩ := hm 0 (by simp)
    simp only [Nat.add_zero] at hc hf
    have hst : (store (Addr.add ⟨b, o, none⟩ i) v).run P w = .ok () (w.setCell ⟨b, o + i, none⟩ v) := by
      rw [addr_add, run_store P w _ v _ (h1 v List.mem_cons_self)]
      simp [hc, hf]
    rw [storeCells, Sem.run_bind, hst, Result.andThen_ok, ih _ (i + 1) ?_ (fun c hc => h1 c (List.mem_cons_of_mem _ hc))]
    · rfl
    · intro j hj
      have := (hm.set (o + i) v) (j + 1) (by simp; omega)
      rwa [show o + i + (j + 1) = o + (i + 1) + j by omega] at this

end
end Go.Proofs.YtbnjjpgacemicaaGreatDoor.Vc
