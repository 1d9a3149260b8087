/-
  Slices in memory: rows of elements that are read, rows that are filled, slices that grow by append.
  Conditions: none.
-/
import Derived.Test.YtbnjjpgacemicaaGreatDoorTab
namespace Go.Proofs.YtbnjjpgacemicaaGreatDoor.Vc
open Go.RowKit

section
variable {w w' : World} {b o : Nat}

theorem cell_lt {p : Addr} {v : Value} (h : w.cell? p = some v) : p.block < w.heap.size := World.block_lt_of_cell? w p h

theorem setCell_in {u : Value} (h : Mut w b o) : (w.setCell ⟨b, o, none⟩ u).cell? ⟨b, o, none⟩ = some u := by
  obtain ⟨⟨x, hx⟩, _⟩ := h
  exact World.cell?_setCell_same _ _ _ hx
theorem setCell_out {u : Value} {b' o' : Nat} (h : b' ≠ b ∨ o' ≠ o) : (w.setCell ⟨b, o, none⟩ u).cell? ⟨b', o', none⟩ = w.cell? ⟨b', o', none⟩ := by
  refine World.cell?_setCell_other _ _ _ _ (fun e => ?_)
  simp only [Addr.mk.injEq] at e
  rcases h with h | h <;> omega
theorem setL_out {b' o' : Nat} (l : List Value) : ∀ (w : World) (o : Nat), (b' ≠ b ∨ o' < o ∨ o + l.length ≤ o') → (setL w b o l).cell? ⟨b', o', none⟩ = w.cell? ⟨b', o', none⟩ := by
  induction l with
  | nil => intro w o _; rfl
  | cons v r ih =>
    intro w o h
    rw [setL, ih _ _ (by simp only [List.length_cons] at h; omega), setCell_out (by simp only [List.length_cons] at h; omega)]
theorem setL_in (l : List Value) : ∀ (w : World) (o : Nat), MutN w b o l.length → ∀ i v, l[i]? = some v → (setL w b o l).cell? ⟨b, o + i, none⟩ = some v := by
  induction l with
  | nil => intro w o _ i v h; simp at h
  | cons x r ih =>
    intro w o hm i v h
    rw [setL]
    cases i with
    | zero =>
      simp only [List.getElem?_cons_zero, Option.some.injEq] at h
      subst h
      rw [setL_out r _ _ (by omega)]
      exact setCell_in (hm 0 (by simp))
    | succ i =>
      have := ih (w.setCell ⟨b, o, none⟩ x) (o + 1) (fun j hj => by
        have := (hm.set o x) (j + 1) (by simp; omega)
        rwa [show o + (j + 1) = o + 1 + j by omega] at this) i v (by simpa using h)
      rwa [show o + 1 + i = o + (i + 1) by omega] at this
theorem MutN.setL {b' o' n : Nat} (l : List Value) : ∀ (w : World) (o : Nat), MutN w b' o' n → MutN (setL w b o l) b' o' n := by
  induction l with
  | nil => intro w o h; exact h
  | cons x r ih =>
    intro w o h
    rw [Vc.setL]
    refine ih _ _ ?_
    intro i hi
    obtain ⟨⟨u, h1⟩, h2⟩ := h i hi
    obtain ⟨v', hv⟩ := cell?_setCell_some (w := w) (p := ⟨b, o, none⟩) (x := x) (q := ⟨b', o' + i, none⟩) (v := u) h1
    exact ⟨⟨v', hv⟩, by rw [← h2]; exact World.frozen?_setCell _ _ _ _⟩
theorem CellsAt.setL_in {l : List Value} (h : MutN w b o l.length) : CellsAt (setL w b o l) b o l := fun i v hi => Go.Proofs.YtbnjjpgacemicaaGreatDoor.Vc.setL_in l w o h i v hi
theorem CellsAt.setL_out {b' o' : Nat} {l m : List Value} (h : CellsAt w b' o' m) (hd : b' ≠ b ∨ o' + m.length ≤ o ∨ o + l.length ≤ o') : CellsAt (setL w b o l) b' o' m := by
  intro i v hi
  have hlt := (List.getElem?_eq_some_iff.1 hi).1
  rw [Go.Proofs.YtbnjjpgacemicaaGreatDoor.Vc.setL_out l w o (by omega)]
  exact h i v hi
theorem CellsAt.lt {l : List Value} (h : CellsAt w b o l) (h0 : 0 < l.length) : b < w.heap.size := by
  have := h 0 l[0] (by simp)
  exact cell_lt this
theorem CellsAt.nil : CellsAt w b o [] := fun i v hi => by simp at hi
theorem CellsAt.append {l m : List Value} (h : CellsAt w b o l) (k : CellsAt w b (o + l.length) m) : CellsAt w b o (l ++ m) := by
  intro i v hi
  rw [List.getElem?_append] at hi
  split at hi
  · exact h i v hi
  · have := k _ v hi
    rwa [show o + l.length + (i - l.length) = o + i by omega] at this
theorem CellsAt.left {l m : List Value} (h : CellsAt w b o (l ++ m)) : CellsAt w b o l := fun i v hi => h i v (by
  rw [List.getElem?_append_left (List.getElem?_eq_some_iff.1 hi).1]; exact hi)
theorem CellsAt.right {l m : List Value} (h : CellsAt w b o (l ++ m)) : CellsAt w b (o + l.length) m := fun i v hi => by
  have := h (l.length + i) v (by rw [List.getElem?_append_right (by omega)]; simpa using hi)
  rwa [← Nat.add_assoc] at this
theorem CellsAt.below {l : List Value} {B : Nat} (h : CellsAt w b o l) (hx : Below B w w') (hb : l = [] ∨ b < B) : CellsAt w' b o l := by
  rcases hb with rfl | hb
  · exact CellsAt.nil
  · intro i v hi
    rw [hx.cell (p := ⟨b, o + i, none⟩) hb]
    exact h i v hi
/-- Cells of a block that is known whole. -/
theorem CellsAt.of_block {cs : List Value} {t : TypeId} {fr : Nat × Nat} (h : w.heap[b]? = some (.cells cs.toArray t fr)) {m : List Value} (hm : ∀ i v, m[i]? = some v → cs[o + i]? = some v) : CellsAt w b o m := by
  intro i v hi
  simp [World.cell?, h, hm i v hi]
theorem MutN.of_block {cs : Array Value} {t : TypeId} (h : w.heap[b]? = some (.cells cs t (0, 0))) {n : Nat} (hn : o + n ≤ cs.size) : MutN w b o n := by
  intro i hi
  refine ⟨⟨cs[o + i]'(by omega), ?_⟩, by simp [World.frozen?, h]⟩
  simp only [World.cell?, h]
  exact Array.getElem?_eq_getElem (by omega)
theorem MutN.sub {n k m : Nat} (h : MutN w b o n) (hk : k + m ≤ n) : MutN w b (o + k) m := by
  intro i hi
  have := h (k + i) (by omega)
  rwa [← Nat.add_assoc] at this
theorem MutN.below {B n : Nat} (h : MutN w b o n) (hx : Below B w w') (hb : b < B) : MutN w' b o n := by
  intro i hi
  obtain ⟨⟨u, h1⟩, h2⟩ := h i hi
  exact ⟨⟨u, by rw [hx.cell (p := ⟨b, o + i, none⟩) hb]; exact h1⟩, by rw [hx.frozen (p := ⟨b, o + i, none⟩) hb]; exact h2⟩
theorem below_setL {B : Nat} {A : World} (h : Below B A w) (hb : B ≤ b) (l : List Value) : ∀ (o : Nat), Below B A (setL w b o l) := by
  intro o
  obtain ⟨r1, r2, r3⟩ := setL_rest b l w o
  exact h.trans ⟨r1, r2, r3, by rw [setL_size]; exact Nat.le_refl _, fun j hj => setL_other _ _ (by omega) _ _⟩
end

/-! ### Slices that are read -/

/-- A slice of elements of one cell. -/
def Row1 (w : World) (v : Value) (xs : List Value) : Prop := ∃ (ad : Option Addr) (cap : Nat), v = .slice ad xs.length cap ∧ xs.length ≤ cap ∧ cap ≤ 9223372036854775807 ∧
  (0 < xs.length → ∃ b o, ad = some ⟨b, o, none⟩ ∧ CellsAt w b o xs)
/-- A slice of elements of several cells. -/
def RowN (w : World) (v : Value) (sz : Nat) (es : List (List Value)) : Prop := ∃ (ad : Option Addr) (cap : Nat), v = .slice ad es.length cap ∧ es.length ≤ cap ∧ cap ≤ 9223372036854775807 ∧
  (0 < es.length → ∃ b o, ad = some ⟨b, o, none⟩ ∧ b < w.heap.size ∧ ∀ i l, es[i]? = some l → CellsAt w b (o + i * sz) l ∧ l.length = sz)
theorem Row1.ext {w w' : World} {v : Value} {xs : List Value} (h : Row1 w v xs) (hx : Ext w w') : Row1 w' v xs := by
  obtain ⟨ad, cap, h1, h2, h3, h4⟩ := h
  exact ⟨ad, cap, h1, h2, h3, fun h0 => let ⟨b, o, h5, h6⟩ := h4 h0; ⟨b, o, h5, h6.ext hx⟩⟩
theorem RowN.ext {w w' : World} {v : Value} {sz : Nat} {es : List (List Value)} (h : RowN w v sz es) (hx : Ext w w') : RowN w' v sz es := by
  obtain ⟨ad, cap, h1, h2, h3, h4⟩ := h
  exact ⟨ad, cap, h1, h2, h3, fun h0 => let ⟨b, o, h5, h7, h6⟩ := h4 h0; ⟨b, o, h5, Nat.lt_of_lt_of_le h7 hx.size, fun i l hi => ⟨(h6 i l hi).1.ext hx, (h6 i l hi).2⟩⟩⟩

theorem RowN.below {w w' : World} {v : Value} {sz : Nat} {es : List (List Value)} (h : RowN w v sz es) (hx : Below w.heap.size w w') : RowN w' v sz es := h.ext hx
theorem RowN.below' {B : Nat} {w w0 w' : World} {v : Value} {sz : Nat} {es : List (List Value)} (h : RowN w0 v sz es) (hB : w0.heap.size ≤ B) (hx : Ext w0 w) (hx2 : Below B w w') : RowN w' v sz es := by
  obtain ⟨ad, cap, h1, h2, h3, h4⟩ := h
  refine ⟨ad, cap, h1, h2, h3, fun h0 => ?_⟩
  obtain ⟨b, o, h5, h7, h6⟩ := h4 h0
  refine ⟨b, o, h5, by have := hx.size; have := hx2.size; omega, fun i l hi => ⟨((h6 i l hi).1.ext hx).below hx2 (.inr (by omega)), (h6 i l hi).2⟩⟩

/-! ### Rows that are filled -/

/-- A block of the call's own with room for n elements of sz cells, the first k of them filled. -/
structure Part (w : World) (g n sz : Nat) (es : List (List Value)) (k : Nat) : Prop where
  room : MutN w g 0 (n * sz)
  lt : g < w.heap.size
  at_ : ∀ i l, i < k → es[i]? = some l → CellsAt w g (i * sz) l ∧ l.length = sz
theorem Part.step {w : World} {g n sz k : Nat} {es : List (List Value)} {l : List Value} (h : Part w g n sz es k) (hk : k < n) (hl : es[k]? = some l) (hs : l.length = sz) : Part (setL w g (k * sz) l) g n sz es (k + 1) := by
  have hle : k * sz + sz ≤ n * sz := by
    rw [← Nat.succ_mul]; exact Nat.mul_le_mul_right _ hk
  refine ⟨MutN.setL l w _ h.room, by rw [setL_size]; exact h.lt, fun i m hi hm => ?_⟩
  by_cases e : i = k
  · subst e
    rw [hl] at hm
    cases hm
    refine ⟨CellsAt.setL_in ?_, hs⟩
    have := h.room.sub (k := i * sz) (m := l.length) (by rw [hs]; exact hle)
    rwa [Nat.zero_add] at this
  · obtain ⟨h1, h2⟩ := h.at_ i m (by omega) hm
    refine ⟨h1.setL_out (.inr (.inl ?_)), h2⟩
    rw [h2, ← Nat.succ_mul]
    exact Nat.mul_le_mul_right _ (by omega)
theorem Part.ext {w w' : World} {g n sz k : Nat} {es : List (List Value)} (h : Part w g n sz es k) (hx : Ext w w') : Part w' g n sz es k :=
  ⟨h.room.below hx h.lt, Nat.lt_of_lt_of_le h.lt hx.size, fun i l hi hl => ⟨(h.at_ i l hi hl).1.ext hx, (h.at_ i l hi hl).2⟩⟩
theorem Part.new {w : World} {g n sz : Nat} {es : List (List Value)} {cs : Array Value} {t : TypeId} (hg : g < w.heap.size) (h : w.heap[g]? = some (.cells cs t (0, 0))) (hs : cs.size = n * sz) : Part w g n sz es 0 :=
  ⟨MutN.of_block h (by omega), hg, fun i l hi => absurd hi (by omega)⟩
theorem Part.rowN {w : World} {g sz : Nat} {es : List (List Value)} (h : Part w g es.length sz es es.length) (hm : es.length ≤ 9223372036854775807) : RowN w (.slice (some ⟨g, 0, none⟩) es.length es.length) sz es := by
  refine ⟨_, _, rfl, Nat.le_refl _, hm, fun _ => ⟨g, 0, rfl, h.lt, fun i l hi => ?_⟩⟩
  rw [Nat.zero_add]
  exact h.at_ i l (List.getElem?_eq_some_iff.1 hi).1 hi
theorem Part.row1 {w : World} {g : Nat} {xs : List Value} (h : Part w g xs.length 1 (xs.map fun x => [x]) xs.length) (hm : xs.length ≤ 9223372036854775807) : Row1 w (.slice (some ⟨g, 0, none⟩) xs.length xs.length) xs := by
  refine ⟨_, _, rfl, Nat.le_refl _, hm, fun _ => ⟨g, 0, rfl, fun i v hi => ?_⟩⟩
  have := (h.at_ i [v] (List.getElem?_eq_some_iff.1 hi).1 (by simp [hi])).1 0 v rfl
  simpa using this


/-! ### Slices that grow by append -/

/-- A slice of n elements that the call itself made: nil, or a block from B on, with room up to its capacity. -/
structure Buf (B : Nat) (w : World) (ad : Option Addr) (n cap sz : Nat) (xs : List Value) : Prop where
  le : n ≤ cap
  max : cap ≤ 9223372036854775807
  len : xs.length = n * sz
  nil : ad = none → cap = 0
  at_ : ∀ p, ad = some p → ∃ g, p = ⟨g, 0, none⟩ ∧ B ≤ g ∧ g < w.heap.size ∧ MutN w g 0 (cap * sz) ∧ CellsAt w g 0 xs
theorem Buf.ext {B : Nat} {w w' : World} {ad : Option Addr} {n cap sz : Nat} {xs : List Value} (h : Buf B w ad n cap sz xs) (hx : Ext w w') : Buf B w' ad n cap sz xs :=
  ⟨h.le, h.max, h.len, h.nil, fun p hp => let ⟨g, h1, h2, h3, h4, h5⟩ := h.at_ p hp; ⟨g, h1, h2, Nat.lt_of_lt_of_le h3 hx.size, h4.below hx h3, h5.ext hx⟩⟩
theorem Buf.row1 {B : Nat} {w : World} {ad : Option Addr} {n cap : Nat} {xs : List Value} (h : Buf B w ad n cap 1 xs) : Row1 w (.slice ad n cap) xs := by
  have hl : xs.length = n := by simpa using h.len
  refine ⟨ad, cap, by rw [hl], by rw [hl]; exact h.le, h.max, fun h0 => ?_⟩
  cases ad with
  | none => have := h.nil rfl; have := h.le; omega
  | some p =>
    obtain ⟨g, h1, _, _, _, h5⟩ := h.at_ p rfl
    exact ⟨g, 0, by rw [h1], h5⟩
theorem Buf.made {B : Nat} {w : World} {g sz : Nat} {cs : Array Value} {t : TypeId} (hB : B ≤ g) (hg : g < w.heap.size) (h : w.heap[g]? = some (.cells cs t (0, 0))) (c : Nat) (hs : cs.size = c * sz) (hc : c ≤ 9223372036854775807) :
    Buf B w (some ⟨g, 0, none⟩) 0 c sz [] :=
  ⟨Nat.zero_le _, hc, by simp, fun h => (by cases h), fun p hp => by cases hp; exact ⟨g, rfl, hB, hg, MutN.of_block h (by omega), CellsAt.nil⟩⟩
theorem Buf.empty (B : Nat) (w : World) (sz : Nat) : Buf B w none 0 0 sz [] := ⟨Nat.le_refl _, by omega, by simp, fun _ => rfl, fun p hp => by cases hp⟩

/-- append to such a slice. -/
theorem AppV.buf {H : List OE} {A : World} {e : TypeId} {sz bytes : Nat} {z : Value} {ad : Option Addr} {n cap m b o B : Nat} {xs news : List Value} {K : Value → World → Prop}
    (hb : Buf B A ad n cap sz xs) (hsrc : CellsAt A b o news) (hlen : news.length = m * sz) (h1 : ∀ c, c ∈ news → c.oneCell' = true) (hne : ∀ p, ad = some p → OwnNe H p.block)
    (hbytes : (n + m) * bytes ≤ 140737488355328) (hmax : n + m ≤ 9223372036854775807) (hz : z.cells.size = sz) (hB : B ≤ A.heap.size)
    (k : ∀ ad' cap' A', Buf B A' ad' (n + m) cap' sz (xs ++ news) → Below B A A' → (∀ j, j < A.heap.size → (∀ p, ad = some p → j ≠ p.block) → A'.heap[j]? = A.heap[j]?) → K (.slice ad' (n + m) cap') A') :
    AppV H A e sz bytes z ad n cap (some ⟨b, o, none⟩) m K := by
  refine ⟨news, hlen, h1, fun p hp _ => ?_, fun h => (by cases h), fun hfit => ⟨fun p hp => ?_, ?_⟩, fun hgrow => ⟨hbytes, hmax, xs, hb.len, fun p hp => ?_, fun hn => ?_, fun c hc1 hc2 g w1 hx1 hg1 hg2 hg3 _ => ?_⟩⟩
  · cases hp; exact ⟨b, o, rfl, hsrc⟩
  · obtain ⟨g, h2, h3, h4, h5, h6⟩ := hb.at_ p hp
    subst h2
    refine ⟨g, 0, rfl, h5.sub ?_, hne _ hp⟩
    rw [← Nat.add_mul]; exact Nat.mul_le_mul_right _ hfit
  · cases had : ad with
    | none =>
      subst had
      have := hb.nil rfl
      have hm : m = 0 := by have := hb.le; omega
      subst hm
      have : news = [] := List.eq_nil_of_length_eq_zero (by simpa using hlen)
      subst this
      exact k none cap A ⟨hfit, hb.max, by simpa using hb.len, hb.nil, fun p hp => by cases hp⟩ (Below.refl _ _) (fun _ _ _ => rfl)
    | some p =>
      subst had
      obtain ⟨g, h2, h3, h4, h5, h6⟩ := hb.at_ p rfl
      subst h2
      have hroom : MutN A g (0 + n * sz) news.length := by
        rw [hlen]
        refine h5.sub ?_
        rw [← Nat.add_mul]; exact Nat.mul_le_mul_right _ hfit
      show K _ (setL A g (0 + n * sz) news)
      refine k _ cap _ ⟨hfit, hb.max, by rw [List.length_append, hb.len, hlen, Nat.add_mul], fun h => (by cases h), fun p hp => ?_⟩ (below_setL (Below.refl _ _) h3 _ _) (fun j _ hj => setL_other _ _ (hj _ rfl) _ _)
      cases hp
      refine ⟨g, rfl, h3, by rw [setL_size]; exact h4, MutN.setL _ _ _ h5, CellsAt.append (h6.setL_out (.inr (.inl (by rw [hb.len]; omega)))) ?_⟩
      rw [hb.len]
      exact CellsAt.setL_in hroom
  · obtain ⟨g, h2, h3, h4, h5, h6⟩ := hb.at_ p hp
    exact ⟨g, 0, h2, h6⟩
  · have := hb.nil hn; have := hb.le; omega
  · have hsize : ((xs ++ news).toArray ++ Builtin.zeroCells z.cells (c - (n + m))).size = c * sz := by
      rw [Array.size_append, size_zeroCells, hz, List.size_toArray, List.length_append, hb.len, hlen, ← Nat.add_mul, ← Nat.add_mul]
      congr 1; omega
    refine k _ c w1 ⟨hc1, hc2, by rw [List.length_append, hb.len, hlen, Nat.add_mul], fun h => (by cases h), fun p hp => ?_⟩ (hx1.mono hB) (fun j hj _ => hx1.block j hj)
    cases hp
    refine ⟨g, rfl, by omega, hg2, MutN.of_block hg3 (by omega), fun i v hi => ?_⟩
    have hlt := (List.getElem?_eq_some_iff.1 hi).1
    simp only [World.cell?, hg3]
    rw [if_neg (by simp), Nat.zero_add, Array.getElem?_append_left (by simpa using hlt)]
    simpa using hi

end Go.Proofs.YtbnjjpgacemicaaGreatDoor.Vc
