/-
  Contracts: slices.Insert of one element into a buffer of the call's own.
  Conditions: bounds.
-/
import Derived.Test.YtbnjjpgacemicaaGreatDoorCopy
namespace Go.Proofs.YtbnjjpgacemicaaGreatDoor
open Go.RowKit Vc
set_option linter.unusedVariables false
set_option maxHeartbeats 1000000

theorem setCells_setL (b : Nat) : ∀ (vs : List Value) (o : Nat) (w : World), w.setCells b o vs = setL w b o vs
  | [], _, _ => rfl
  | v :: r, o, w => by rw [World.setCells, setL, setCells_setL b r]
theorem Ext.drew' (w : World) : Vc.Ext w w.drew := ⟨rfl, rfl, rfl, Nat.le_refl _, fun _ _ => rfl⟩
theorem Ext.alloc' (w : World) (o : Obj) : Vc.Ext w (w.alloc o) := ⟨rfl, rfl, rfl, by rw [World.size_alloc]; omega, fun j hj => by simp only [World.alloc, Array.getElem?_push]; rw [if_neg (by omega)]⟩
theorem alloc_new' (w : World) (o : Obj) : (w.alloc o).heap[w.heap.size]? = some o := by unfold World.alloc; rw [Array.getElem?_push, if_pos rfl]
theorem setL_drew (b : Nat) : ∀ (vs : List Value) (o : Nat) (w : World), setL w.drew b o vs = (setL w b o vs).drew
  | [], _, _ => rfl
  | v :: r, o, w => by rw [setL, setL, ← setL_drew b r]; rfl
theorem shape_at {w : World} {b : Nat} {u : Value} {o : Nat} (h : w.cell? ⟨b, o, none⟩ = some u) : ∃ t k, w.shape? b = some (t, k) ∧ k ≠ 0 := by
  unfold World.cell? at h
  unfold World.shape?
  cases hb : w.heap[b]? with
  | none => rw [hb] at h; cases h
  | some o' =>
    rw [hb] at h
    cases o' with
    | cells c e fr =>
      simp only at h ⊢
      refine ⟨e, c.size, rfl, fun h0 => ?_⟩
      have hlt := Array.getElem?_eq_some_iff.1 (by simpa using h)
      obtain ⟨h1, _⟩ := hlt
      omega
    | _ => cases h
/-- What becomes of a buffer that grew: in its block, or in a new one. -/
def GrewV (w w' : World) (v : Value) (g g' : Nat) : Prop := (g' = g ∧ 0 < capV v ∧ ExcP (fun j => j = g) w w') ∨ (w.heap.size ≤ g' ∧ Vc.Ext w w')
theorem take_len {α : Type} {l : List α} {i : Nat} (h : i ≤ l.length) : (l.take i).length = i := by rw [List.length_take]; omega
/-- One element between the others. -/
theorem CellsAt.between {A : World} {g i : Nat} {xs : List Value} {y : Value} (hm : MutN A g 0 (xs.length + 1)) (h : CellsAt A g 0 (xs.take i)) (hi : i ≤ xs.length) :
    CellsAt (setL (setL A g (i + 1) (xs.drop i)) g i [y]) g 0 (xs.take i ++ y :: xs.drop i) := by
  have hl : (xs.take i).length = i := take_len hi
  have hd : (xs.drop i).length = xs.length - i := List.length_drop
  have h1 : CellsAt (setL A g (i + 1) (xs.drop i)) g 0 (xs.take i) := h.setL_out (.inr (.inl (by omega)))
  have h2 : CellsAt (setL A g (i + 1) (xs.drop i)) g (i + 1) (xs.drop i) := CellsAt.setL_in (by
    have := hm.sub (k := i + 1) (m := (xs.drop i).length) (by omega)
    rwa [Nat.zero_add] at this)
  have hm2 : MutN (setL A g (i + 1) (xs.drop i)) g 0 (xs.length + 1) := MutN.setL _ _ _ hm
  refine CellsAt.append (h1.setL_out (.inr (.inl (by omega)))) ?_
  rw [hl, Nat.zero_add]
  refine CellsAt.append (l := [y]) (CellsAt.setL_in (by
    have := hm2.sub (k := i) (m := 1) (by omega)
    rwa [Nat.zero_add] at this)) (h2.setL_out (.inr (.inr (by simp))))
theorem BufS.room {lo hi : Nat} {w : World} {ad : Option Addr} {n cap g i : Nat} {xs : List Value} {y : Value} (h : BufS lo hi w (.slice ad n cap) n 1 xs g) (hroom : n + 1 ≤ cap) (hh : hi ≤ w.heap.size) (hin : i ≤ n) (A : World) (hA : Vc.Ext w A) :
    BufS lo (setL (setL A g (i + 1) (xs.drop i)) g i [y]).heap.size (setL (setL A g (i + 1) (xs.drop i)) g i [y]) (.slice ad (n + 1) cap) (n + 1) 1 (xs.take i ++ y :: xs.drop i) g ∧ ExcP (fun j => j = g) w (setL (setL A g (i + 1) (xs.drop i)) g i [y]) := by
  obtain ⟨_, _, e, h1, h2, h3, h4, h5⟩ := h
  cases e
  obtain ⟨h6, h7, h8, h9, h10⟩ := h5 (by omega)
  have hs := hA.size
  rw [Nat.mul_one] at h3 h9
  refine ⟨⟨_, _, rfl, hroom, h2, ?_, h4, fun _ => ⟨h6, h7, by rw [setL_size, setL_size]; omega, MutN.setL _ _ _ (MutN.setL _ _ _ (by rw [Nat.mul_one]; exact h9.ext hA)), CellsAt.between ((h9.ext hA).sub (k := 0) (m := xs.length + 1) (by omega)) ?_ (by omega)⟩⟩, ?_⟩
  · rw [List.length_append, List.length_cons, take_len (by omega), List.length_drop]; omega
  · have := h10.ext hA
    exact CellsAt.left (m := xs.drop i) (by rw [List.take_append_drop]; exact this)
  · exact ((ExcP.of_ext hA).setL (S := fun j => j = g) rfl _ _).setL (S := fun j => j = g) rfl _ _
/-- A new block that holds what the buffer held, and room. -/
theorem BufS.fresh {lo : Nat} {w A : World} {n cap : Nat} {xs : List Value} {t : TypeId} {cs : Array Value} (h : A.heap[w.heap.size]? = some (.cells cs t (0, 0))) (hx : Vc.Ext w A) (hlo : lo ≤ w.heap.size) (hn : xs.length = n) (hc : cs.size = cap) (hnc : n ≤ cap) (hm : cap ≤ 9223372036854775807)
    (hs : ∀ (i : Nat) (v : Value), xs[i]? = some v → cs[i]? = some v) : BufS lo A.heap.size A (.slice (some ⟨w.heap.size, 0, none⟩) n cap) n 1 xs w.heap.size := by
  have hlt : w.heap.size < A.heap.size := by
    rcases Nat.lt_or_ge w.heap.size A.heap.size with h' | h'
    · exact h'
    · rw [Array.getElem?_eq_none h'] at h; cases h
  refine ⟨_, _, rfl, hnc, hm, by omega, fun p e => by cases e; exact ⟨_, _, rfl⟩, fun _ => ⟨rfl, hlo, hlt, MutN.of_block h (by omega), CellsAt.mk fun i v hi => ?_⟩⟩
  simp only [Nat.zero_add, World.cell?, h]
  rw [if_neg (by simp)]
  exact hs i v hi
theorem BufS.fresh2 {lo : Nat} {w A : World} {n cap i : Nat} {xs : List Value} {y : Value} {t : TypeId} {cs : Array Value} (h : A.heap[w.heap.size]? = some (.cells cs t (0, 0))) (hx : Vc.Ext w A) (hlo : lo ≤ w.heap.size) (hn : xs.length = n) (hc : cs.size = cap) (hnc : n + 1 ≤ cap) (hm : cap ≤ 9223372036854775807) (hi : i ≤ n)
    (hs : ∀ (j : Nat) (v : Value), (xs.take i)[j]? = some v → cs[j]? = some v) (A' : World) (hA' : A' = (setL (setL A w.heap.size i [y]) w.heap.size (i + 1) (xs.drop i)).drew.drew) : BufS lo A'.heap.size A' (.slice (some ⟨w.heap.size, 0, none⟩) (n + 1) cap) (n + 1) 1 (xs.take i ++ y :: xs.drop i) w.heap.size ∧ Vc.Ext w A' := by
  have hE := (Ext.drew' (setL (setL A w.heap.size i [y]) w.heap.size (i + 1) (xs.drop i))).trans (Ext.drew' _)
  rw [← hA'] at hE
  suffices hh : BufS lo (setL (setL A w.heap.size i [y]) w.heap.size (i + 1) (xs.drop i)).heap.size (setL (setL A w.heap.size i [y]) w.heap.size (i + 1) (xs.drop i)) (.slice (some ⟨w.heap.size, 0, none⟩) (n + 1) cap) (n + 1) 1 (xs.take i ++ y :: xs.drop i) w.heap.size ∧ Vc.Ext w (setL (setL A w.heap.size i [y]) w.heap.size (i + 1) (xs.drop i)) from ⟨hh.1.ext hE hE.size, hh.2.trans hE⟩
  have hlt : w.heap.size < A.heap.size := by
    rcases Nat.lt_or_ge w.heap.size A.heap.size with h' | h'
    · exact h'
    · rw [Array.getElem?_eq_none h'] at h; cases h
  have hmm : MutN A w.heap.size 0 cap := MutN.of_block h (by omega)
  have h0 : CellsAt A w.heap.size 0 (xs.take i) := CellsAt.mk fun j v hj => by
    simp only [Nat.zero_add, World.cell?, h]
    rw [if_neg (by simp)]
    exact hs j v hj
  have hl : (xs.take i).length = i := take_len (by omega)
  have hd : (xs.drop i).length = xs.length - i := List.length_drop
  have hm1 : MutN (setL A w.heap.size i [y]) w.heap.size 0 cap := MutN.setL _ _ _ hmm
  refine ⟨⟨_, _, rfl, hnc, hm, ?_, fun p e => by cases e; exact ⟨_, _, rfl⟩, fun _ => ⟨rfl, hlo, by rw [setL_size, setL_size]; exact hlt, MutN.setL _ _ _ (MutN.setL _ _ _ (by rw [Nat.mul_one]; exact hmm)), ?_⟩⟩, ?_⟩
  · rw [List.length_append, List.length_cons, hl, hd]; omega
  · have h1 := h0.setL_out (b := w.heap.size) (o := i) (l := [y]) (.inr (.inl (by omega)))
    have h2 : CellsAt (setL A w.heap.size i [y]) w.heap.size i [y] := CellsAt.setL_in (by
      have := hmm.sub (k := i) (m := 1) (by omega)
      rwa [Nat.zero_add] at this)
    have h3 : CellsAt (setL (setL A w.heap.size i [y]) w.heap.size (i + 1) (xs.drop i)) w.heap.size (i + 1) (xs.drop i) := CellsAt.setL_in (by
      have := hm1.sub (k := i + 1) (m := (xs.drop i).length) (by omega)
      rwa [Nat.zero_add] at this)
    refine CellsAt.append (h1.setL_out (.inr (.inl (by omega)))) ?_
    rw [hl, Nat.zero_add]
    exact CellsAt.append (l := [y]) (h2.setL_out (.inr (.inl (by simp)))) h3
  · exact hx.trans' (below_setL (below_setL (Below.refl _ _) (Nat.le_refl _) _ _) (Nat.le_refl _) _ _)

theorem insertS_call {lo hi : Nat} (l : List ByteArray) (v : Value) (g i : Nat) (x : ByteArray) (w : World) (hB : BufS lo hi w v l.length 1 (strs l) g) (hh : hi ≤ w.heap.size) (hlo : lo ≤ w.heap.size) (hl : l.length ≤ 8388608) (hil : i ≤ l.length) (b : Nat) {t : TypeId} (hb : w.heap[b]? = some (.cells #[.string x] t (0, 0))) (hbg : 0 < capV v → b ≠ g) :
    Calls Tryz.prog 86 #[v, .int .i64 (i : Int), .slice (some ⟨b, 0, none⟩) 1 1] w fun e w' => ∃ v', e = .returned v' ∧ ∃ g', BufS lo w'.heap.size w' v' (l.length + 1) 1 (strs (l.take i ++ x :: l.drop i)) g' ∧ 0 < capV v' ∧ GrewV w w' v g g' := by
  obtain ⟨ad, cap, rfl, h1, h2, h3, h4, h5⟩ := id hB
  have henc : strs (l.take i ++ x :: l.drop i) = (strs l).take i ++ (.string x) :: (strs l).drop i := by
    simp [List.map_append, List.map_take, List.map_drop]
  rw [henc]
  have hlen : (strs l).length = l.length := by simp
  have hone : ∀ v ∈ (strs l), v.oneCell' = true := by simp [Value.oneCell']
  have hvs : ∀ j v, [(.string x : Value)][j]? = some v → w.cell? ⟨b, 0 + j, none⟩ = some v := fun j v hj => by
    simp only [World.cell?, hb]
    rw [if_neg (by simp), Nat.zero_add]
    have e : (#[(.string x : Value)])[j]? = [(.string x : Value)][j]? := by simp
    rw [e]; exact hj
  have h1v : ∀ v ∈ [(.string x : Value)], v.oneCell' = true := by simp [Value.oneCell']
  rcases Nat.lt_or_ge i l.length with hlt | hge
  · obtain ⟨h6, h7, h8, h9, h10⟩ := h5 (by omega)
    subst h6
    rcases Nat.lt_or_ge cap (l.length + 1) with hr | hr
    · refine (Tryz.slices_Insert_string_grow g 0 l.length cap i b 0 1 1 (strs l) [.string x] w hlt (by omega) h1 hr (by omega) hlen rfl (fun j v hj => h10.out j v hj) hvs hone h1v).mono fun e w' ⟨e1, e2⟩ => ⟨_, e1, w.heap.size, ?_⟩
      have hge := grownCap_ge w (l.length + 1) cap 9
      have hmx := grownCap_le_maxLen w (l.length + 1) cap 9 (by unfold maxLen; omega)
      have hz : ∀ n, (Builtin.zeroCells (Value.cells (Value.string ⟨#[]⟩)) n).size = n := fun n => by rw [size_zeroCells]; show n * 1 = n; omega
      have key := BufS.fresh2 (lo := lo) (w := w) (A := (w.alloc (.cells (((strs l).take i).toArray ++ Builtin.zeroCells (Value.cells (Value.string ⟨#[]⟩)) (l.length + 1 - i) ++ Builtin.zeroCells (Value.cells (Value.string ⟨#[]⟩)) (grownCap w (l.length + 1) cap 9 - (l.length + 1))) 9))) (n := l.length) (cap := grownCap w (l.length + 1) cap 9) (i := i) (xs := strs l) (y := .string x) (t := 9)
        (alloc_new' _ _) (Ext.alloc' _ _) hlo hlen (by simp only [Array.size_append, hz, List.size_toArray, take_len (l := strs l) (i := i) (by omega)]; omega) hge hmx hil (fun j v hj => by
          have hjl := (List.getElem?_eq_some_iff.1 hj).1
          rw [Array.getElem?_append_left (by simp only [Array.size_append, List.size_toArray]; omega), Array.getElem?_append_left (by simpa using hjl)]
          simpa using hj) w' (by rw [e2, setCells_setL, setCells_setL, setL_drew, setL_drew, setL_drew])
      exact ⟨key.1, by show 0 < grownCap _ _ _ _; omega, .inr ⟨Nat.le_refl _, key.2⟩⟩
    · obtain ⟨u, hu⟩ := (h9.out 0 (by omega)).1
      obtain ⟨tB, kB, hsb, hkB⟩ := shape_at hu
      have hne : b ≠ g := hbg (by show 0 < cap; omega)
      refine (Tryz.slices_Insert_string_shift g 0 l.length cap i b 0 1 1 (strs l) [.string x] w hlt (by omega) hr h2 hne hlen rfl (fun j v hj => h10.out j v hj) (fun j hj => by obtain ⟨u, hu⟩ := (h9.out j (by omega)).1; rw [hu]; rfl) (fun j hj => (h9.out j (by omega)).2) hvs hone h1v t tB 1 kB (by simp [World.shape?, hb]) hsb hkB (by simp [World.frozen?, hb]) (by simp [World.frozen?, hb])).mono fun e w' ⟨e1, e2⟩ => ⟨_, e1, g, ?_⟩
      have key := hB.room (i := i) (y := .string x) hr hh (by omega) w.drew (Ext.drew' w)
      rw [setCells_setL, setCells_setL, Nat.zero_add, Nat.zero_add] at e2
      rw [e2]
      exact ⟨key.1, by show 0 < cap; omega, .inl ⟨rfl, by show 0 < cap; omega, key.2⟩⟩
  · have hie : i = l.length := by omega
    subst hie
    rcases Nat.lt_or_ge cap (l.length + 1) with hr | hr
    · refine (Tryz.slices_Insert_string_end_grow ad l.length cap b 0 1 1 (strs l) [.string x] w (by omega) h1 hr (by omega) hlen rfl (fun hn => ?_) (fun p hp j v hj => ?_) hvs h1v).mono fun e w' ⟨e1, e2⟩ => ⟨_, e1, w.heap.size, ?_⟩
      · rcases Nat.eq_zero_or_pos cap with h0 | h0
        · omega
        · obtain ⟨e3, _⟩ := h5 h0; rw [hn] at e3; cases e3
      · have hjl := (List.getElem?_eq_some_iff.1 hj).1
        rw [hlen] at hjl
        obtain ⟨e3, _, _, _, h10⟩ := h5 (by omega)
        rw [hp] at e3; cases e3
        have := h10.out j v hj
        rw [Nat.zero_add] at this
        have e : (⟨g, 0, none⟩ : Addr).add j = ⟨g, j, none⟩ := by
          unfold Addr.add; split
          · rename_i h; rw [h]
          · simp
        rw [e]; exact this
      have hge := grownCap_ge w (l.length + 1) cap 9
      have hmx := grownCap_le_maxLen w (l.length + 1) cap 9 (by unfold maxLen; omega)
      have hz : ∀ n, (Builtin.zeroCells (Value.cells (Value.string ⟨#[]⟩)) n).size = n := fun n => by rw [size_zeroCells]; show n * 1 = n; omega
      rw [List.take_of_length_le (by omega), List.drop_eq_nil_of_le (by omega)]
      have hx : Vc.Ext w w' := by rw [e2]; exact (Ext.drew' w).trans (Ext.alloc' _ _)
      refine ⟨BufS.fresh (t := 9) (cs := (strs l ++ [(.string x : Value)]).toArray ++ Builtin.zeroCells (Value.cells (Value.string ⟨#[]⟩)) (grownCap w (l.length + 1) cap 9 - (l.length + 1))) (by rw [e2]; exact alloc_new' w.drew _) hx hlo (by simp) (by simp only [Array.size_append, hz, List.size_toArray, List.length_append, hlen, List.length_singleton]; omega) hge hmx (fun j v hj => ?_), by show 0 < grownCap _ _ _ _; omega, .inr ⟨Nat.le_refl _, hx⟩⟩
      have hjl := (List.getElem?_eq_some_iff.1 hj).1
      rw [Array.getElem?_append_left (by simpa using hjl)]
      simpa using hj
    · obtain ⟨h6, h7, h8, h9, h10⟩ := h5 (by omega)
      subst h6
      refine (Tryz.slices_Insert_string_end_room g 0 l.length cap b 0 1 1 [.string x] w (by omega) hr h2 rfl (fun j hj => by obtain ⟨u, hu⟩ := (h9.out (l.length + j) (by omega)).1; rw [Nat.zero_add] at hu ⊢; rw [hu]; rfl) (fun j hj => by have := (h9.out (l.length + j) (by omega)).2; rw [Nat.zero_add] at this ⊢; exact this) hvs h1v).mono fun e w' ⟨e1, e2⟩ => ⟨_, e1, g, ?_⟩
      have key := hB.room (i := l.length) (y := .string x) hr hh (Nat.le_refl _) w (Vc.Ext.refl _)
      rw [List.drop_eq_nil_of_le (by omega)] at key ⊢
      rw [setCells_setL, Nat.zero_add] at e2
      rw [e2]
      exact ⟨key.1, by show 0 < cap; omega, .inl ⟨rfl, by show 0 < cap; omega, key.2⟩⟩
theorem insertI_call {lo hi : Nat} (l : List Int) (v : Value) (g i : Nat) (x : Int) (w : World) (hB : BufS lo hi w v l.length 1 (ints l) g) (hh : hi ≤ w.heap.size) (hlo : lo ≤ w.heap.size) (hl : l.length ≤ 8388608) (hil : i ≤ l.length) (b : Nat) {t : TypeId} (hb : w.heap[b]? = some (.cells #[.int .i64 x] t (0, 0))) (hbg : 0 < capV v → b ≠ g) :
    Calls Tryz.prog 87 #[v, .int .i64 (i : Int), .slice (some ⟨b, 0, none⟩) 1 1] w fun e w' => ∃ v', e = .returned v' ∧ ∃ g', BufS lo w'.heap.size w' v' (l.length + 1) 1 (ints (l.take i ++ x :: l.drop i)) g' ∧ 0 < capV v' ∧ GrewV w w' v g g' := by
  obtain ⟨ad, cap, rfl, h1, h2, h3, h4, h5⟩ := id hB
  have henc : ints (l.take i ++ x :: l.drop i) = (ints l).take i ++ (.int .i64 x) :: (ints l).drop i := by
    simp [List.map_append, List.map_take, List.map_drop]
  rw [henc]
  have hlen : (ints l).length = l.length := by simp
  have hone : ∀ v ∈ (ints l), v.oneCell' = true := by simp [Value.oneCell']
  have hvs : ∀ j v, [(.int .i64 x : Value)][j]? = some v → w.cell? ⟨b, 0 + j, none⟩ = some v := fun j v hj => by
    simp only [World.cell?, hb]
    rw [if_neg (by simp), Nat.zero_add]
    have e : (#[(.int .i64 x : Value)])[j]? = [(.int .i64 x : Value)][j]? := by simp
    rw [e]; exact hj
  have h1v : ∀ v ∈ [(.int .i64 x : Value)], v.oneCell' = true := by simp [Value.oneCell']
  rcases Nat.lt_or_ge i l.length with hlt | hge
  · obtain ⟨h6, h7, h8, h9, h10⟩ := h5 (by omega)
    subst h6
    rcases Nat.lt_or_ge cap (l.length + 1) with hr | hr
    · refine (Tryz.slices_Insert_int_grow g 0 l.length cap i b 0 1 1 (ints l) [.int .i64 x] w hlt (by omega) h1 hr (by omega) hlen rfl (fun j v hj => h10.out j v hj) hvs hone h1v).mono fun e w' ⟨e1, e2⟩ => ⟨_, e1, w.heap.size, ?_⟩
      have hge := grownCap_ge w (l.length + 1) cap 3
      have hmx := grownCap_le_maxLen w (l.length + 1) cap 3 (by unfold maxLen; omega)
      have hz : ∀ n, (Builtin.zeroCells (Value.cells (Value.int .i64 0)) n).size = n := fun n => by rw [size_zeroCells]; show n * 1 = n; omega
      have key := BufS.fresh2 (lo := lo) (w := w) (A := (w.alloc (.cells (((ints l).take i).toArray ++ Builtin.zeroCells (Value.cells (Value.int .i64 0)) (l.length + 1 - i) ++ Builtin.zeroCells (Value.cells (Value.int .i64 0)) (grownCap w (l.length + 1) cap 3 - (l.length + 1))) 3))) (n := l.length) (cap := grownCap w (l.length + 1) cap 3) (i := i) (xs := ints l) (y := .int .i64 x) (t := 3)
        (alloc_new' _ _) (Ext.alloc' _ _) hlo hlen (by simp only [Array.size_append, hz, List.size_toArray, take_len (l := ints l) (i := i) (by omega)]; omega) hge hmx hil (fun j v hj => by
          have hjl := (List.getElem?_eq_some_iff.1 hj).1
          rw [Array.getElem?_append_left (by simp only [Array.size_append, List.size_toArray]; omega), Array.getElem?_append_left (by simpa using hjl)]
          simpa using hj) w' (by rw [e2, setCells_setL, setCells_setL, setL_drew, setL_drew, setL_drew])
      exact ⟨key.1, by show 0 < grownCap _ _ _ _; omega, .inr ⟨Nat.le_refl _, key.2⟩⟩
    · obtain ⟨u, hu⟩ := (h9.out 0 (by omega)).1
      obtain ⟨tB, kB, hsb, hkB⟩ := shape_at hu
      have hne : b ≠ g := hbg (by show 0 < cap; omega)
      refine (Tryz.slices_Insert_int_shift g 0 l.length cap i b 0 1 1 (ints l) [.int .i64 x] w hlt (by omega) hr h2 hne hlen rfl (fun j v hj => h10.out j v hj) (fun j hj => by obtain ⟨u, hu⟩ := (h9.out j (by omega)).1; rw [hu]; rfl) (fun j hj => (h9.out j (by omega)).2) hvs hone h1v t tB 1 kB (by simp [World.shape?, hb]) hsb hkB (by simp [World.frozen?, hb]) (by simp [World.frozen?, hb])).mono fun e w' ⟨e1, e2⟩ => ⟨_, e1, g, ?_⟩
      have key := hB.room (i := i) (y := .int .i64 x) hr hh (by omega) w.drew (Ext.drew' w)
      rw [setCells_setL, setCells_setL, Nat.zero_add, Nat.zero_add] at e2
      rw [e2]
      exact ⟨key.1, by show 0 < cap; omega, .inl ⟨rfl, by show 0 < cap; omega, key.2⟩⟩
  · have hie : i = l.length := by omega
    subst hie
    rcases Nat.lt_or_ge cap (l.length + 1) with hr | hr
    · refine (Tryz.slices_Insert_int_end_grow ad l.length cap b 0 1 1 (ints l) [.int .i64 x] w (by omega) h1 hr (by omega) hlen rfl (fun hn => ?_) (fun p hp j v hj => ?_) hvs h1v).mono fun e w' ⟨e1, e2⟩ => ⟨_, e1, w.heap.size, ?_⟩
      · rcases Nat.eq_zero_or_pos cap with h0 | h0
        · omega
        · obtain ⟨e3, _⟩ := h5 h0; rw [hn] at e3; cases e3
      · have hjl := (List.getElem?_eq_some_iff.1 hj).1
        rw [hlen] at hjl
        obtain ⟨e3, _, _, _, h10⟩ := h5 (by omega)
        rw [hp] at e3; cases e3
        have := h10.out j v hj
        rw [Nat.zero_add] at this
        have e : (⟨g, 0, none⟩ : Addr).add j = ⟨g, j, none⟩ := by
          unfold Addr.add; split
          · rename_i h; rw [h]
          · simp
        rw [e]; exact this
      have hge := grownCap_ge w (l.length + 1) cap 3
      have hmx := grownCap_le_maxLen w (l.length + 1) cap 3 (by unfold maxLen; omega)
      have hz : ∀ n, (Builtin.zeroCells (Value.cells (Value.int .i64 0)) n).size = n := fun n => by rw [size_zeroCells]; show n * 1 = n; omega
      rw [List.take_of_length_le (by omega), List.drop_eq_nil_of_le (by omega)]
      have hx : Vc.Ext w w' := by rw [e2]; exact (Ext.drew' w).trans (Ext.alloc' _ _)
      refine ⟨BufS.fresh (t := 3) (cs := (ints l ++ [(.int .i64 x : Value)]).toArray ++ Builtin.zeroCells (Value.cells (Value.int .i64 0)) (grownCap w (l.length + 1) cap 3 - (l.length + 1))) (by rw [e2]; exact alloc_new' w.drew _) hx hlo (by simp) (by simp only [Array.size_append, hz, List.size_toArray, List.length_append, hlen, List.length_singleton]; omega) hge hmx (fun j v hj => ?_), by show 0 < grownCap _ _ _ _; omega, .inr ⟨Nat.le_refl _, hx⟩⟩
      have hjl := (List.getElem?_eq_some_iff.1 hj).1
      rw [Array.getElem?_append_left (by simpa using hjl)]
      simpa using hj
    · obtain ⟨h6, h7, h8, h9, h10⟩ := h5 (by omega)
      subst h6
      refine (Tryz.slices_Insert_int_end_room g 0 l.length cap b 0 1 1 [.int .i64 x] w (by omega) hr h2 rfl (fun j hj => by obtain ⟨u, hu⟩ := (h9.out (l.length + j) (by omega)).1; rw [Nat.zero_add] at hu ⊢; rw [hu]; rfl) (fun j hj => by have := (h9.out (l.length + j) (by omega)).2; rw [Nat.zero_add] at this ⊢; exact this) hvs h1v).mono fun e w' ⟨e1, e2⟩ => ⟨_, e1, g, ?_⟩
      have key := hB.room (i := l.length) (y := .int .i64 x) hr hh (Nat.le_refl _) w (Vc.Ext.refl _)
      rw [List.drop_eq_nil_of_le (by omega)] at key ⊢
      rw [setCells_setL, Nat.zero_add] at e2
      rw [e2]
      exact ⟨key.1, by show 0 < cap; omega, .inl ⟨rfl, by show 0 < cap; omega, key.2⟩⟩
end Go.Proofs.YtbnjjpgacemicaaGreatDoor
