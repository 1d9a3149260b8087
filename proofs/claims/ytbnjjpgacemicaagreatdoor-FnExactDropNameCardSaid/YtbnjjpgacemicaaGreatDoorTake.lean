/-
  Contracts: slices.Index and slices.Delete at buffers of the call's own; the node without a name.
  Conditions: bounds.
-/
import Derived.Test.YtbnjjpgacemicaaGreatDoorTurnB
import Derived.Test.YtbnjjpgacemicaaGreatDoorFinds
namespace Go.Proofs.YtbnjjpgacemicaaGreatDoor
open Go.RowKit Vc
set_option linter.unusedVariables false
set_option maxHeartbeats 2000000

def Nd.del (n : Nd) (p : Nat) : Nd := { n with names := n.names.eraseIdx p, kids := n.kids.eraseIdx p }
theorem Ext.ahead (w : World) (q : Nat) : Vc.Ext w (Sort.ahead w q) := ⟨rfl, rfl, rfl, Nat.le_refl _, fun _ _ => rfl⟩
theorem putRow_heap {α : Type} [Inhabited α] (enc : α → Value) (w : World) (blk off : Nat) (d : Array α) (k : Nat) : (Sort.putRow enc w blk off d).heap[k]? = if blk = k then (w.heap[k]?).map (Sort.onCells (Sort.putCells enc off d)) else w.heap[k]? := by
  unfold Sort.putRow Sort.mapBlock
  simp only [Array.getElem?_modify]
theorem putRow_exc {α : Type} [Inhabited α] (enc : α → Value) (w : World) (blk off : Nat) (d : Array α) : ExcP (fun j => j = blk) w (Sort.putRow enc w blk off d) :=
  ⟨rfl, rfl, rfl, by unfold Sort.putRow Sort.mapBlock; simp, fun j _ hj => by rw [putRow_heap, if_neg (fun e => hj e.symm)]⟩
theorem putRow_mut {α : Type} [Inhabited α] (enc : α → Value) (w : World) (blk off : Nat) (d : Array α) {n : Nat} (h : MutN w blk 0 n) : MutN (Sort.putRow enc w blk off d) blk 0 n := by
  refine MutN.mk fun i hi => ?_
  obtain ⟨⟨u, h1⟩, h2⟩ := h.out i hi
  refine ⟨?_, ?_⟩
  · unfold World.cell? at h1 ⊢
    rw [putRow_heap, if_pos rfl]
    cases hb : w.heap[blk]? with
    | none => rw [hb] at h1; cases h1
    | some o =>
      rw [hb] at h1
      cases o with
      | cells c e fr =>
        simp only [Option.map_some, Sort.onCells] at h1 ⊢
        rw [if_neg (by simp)] at h1 ⊢
        have hlt := (Array.getElem?_eq_some_iff.1 h1).1
        rw [Array.getElem?_eq_getElem (by simpa [Sort.putCells] using hlt)]
        exact ⟨_, rfl⟩
      | _ => cases h1
  · rw [Sort.frozen?_putRow]; exact h2
theorem BufS.cut {α : Type} [Inhabited α] {lo hi : Nat} {w : World} {l : List α} {enc : α → Value} {ad : Option Addr} {cap g p : Nat} (zr : α) (hB : BufS lo hi w (.slice ad l.length cap) l.length 1 (l.map enc) g) (hp : p < l.length) (q : Nat) :
    Sort.Holds enc w g 0 l.toArray ∧ ad = some ⟨g, 0, none⟩ ∧ l.length ≤ cap ∧ cap ≤ 9223372036854775807 ∧
    BufS lo hi (Sort.putRow enc (Sort.ahead w q) g 0 (l.take p ++ l.drop (p + 1) ++ List.replicate 1 zr).toArray) (.slice ad (l.length - 1) cap) (l.length - 1) 1 ((l.eraseIdx p).map enc) g ∧ ExcP (fun j => j = g) w (Sort.putRow enc (Sort.ahead w q) g 0 (l.take p ++ l.drop (p + 1) ++ List.replicate 1 zr).toArray) := by
  obtain ⟨_, _, e, h1, h2, h3, h4, h5⟩ := hB
  cases e
  obtain ⟨h6, h7, h8, h9, h10⟩ := h5 (by omega)
  have hH : Sort.Holds enc w g 0 l.toArray := fun j hj => by
    have hj' : j < l.length := by simpa using hj
    have hc := h10.out j (enc l[j]) (by rw [List.getElem?_map, List.getElem?_eq_getElem hj']; rfl)
    refine ⟨?_, (h9.out j (by omega)).2⟩
    rw [hc, getElem!_pos _ j hj]; simp
  have hX := (ExcP.of_ext (Ext.ahead w q)).trans (putRow_exc enc (Sort.ahead w q) g 0 (l.take p ++ l.drop (p + 1) ++ List.replicate 1 zr).toArray)
  refine ⟨hH, h6, h1, h2, ⟨_, _, rfl, by omega, h2, ?_, h4, fun _ => ⟨h6, h7, h8, putRow_mut _ _ _ _ _ (h9.ext (Ext.ahead w q)), ?_⟩⟩, hX⟩
  · rw [List.length_map, List.length_eraseIdx, if_pos hp]; omega
  · have hsz : (l.take p ++ l.drop (p + 1) ++ List.replicate 1 zr).toArray.size = l.toArray.size := by
      simp only [List.size_toArray, List.length_append, List.length_take, List.length_drop, List.length_replicate]; omega
    have hN := Sort.holds_putRow enc (Sort.ahead w q) g 0 l.toArray _ (Sort.holds_ahead enc w q g 0 l.toArray hH) hsz
    refine CellsAt.mk fun i v hi => ?_
    rw [List.eraseIdx_eq_take_drop_succ] at hi
    have hi' := (List.getElem?_eq_some_iff.1 hi).1
    rw [List.length_map] at hi'
    have hlt : i < (l.take p ++ l.drop (p + 1) ++ List.replicate 1 zr).toArray.size := by rw [List.size_toArray, List.length_append ]; omega
    have hc := (hN i hlt).1
    rw [hc, getElem!_pos _ i hlt]
    rw [List.getElem?_map, List.getElem?_eq_getElem hi'] at hi
    simp only [Option.map_some, Option.some.injEq] at hi
    rw [← hi, List.getElem_toArray, List.getElem_append_left hi']

theorem deleteS_call {lo hi : Nat} (l : List ByteArray) (v : Value) (g p : Nat) (w : World) (hB : BufS lo hi w v l.length 1 (strs l) g) (hp : p < l.length) (hl : l.length ≤ 8388608) :
    Calls Tryz.prog 65 #[v, .int .i64 (p : Int), .int .i64 ((p : Int) + 1)] w fun e w' => ∃ v', e = .returned v' ∧ BufS lo hi w' v' (l.length - 1) 1 (strs (l.eraseIdx p)) g ∧ 0 < capV v' ∧ 0 < capV v ∧ ExcP (fun j => j = g) w w' := by
  obtain ⟨ad, cap, rfl, _⟩ := id hB
  obtain ⟨i0, hi0, hz1⟩ : ∃ i0, Tryz.prog.info? 9 = some i0 ∧ i0.size = 1 := by
    have h : (Tryz.prog.info? 9).map (·.size) = some 1 := by kernel_rfl
    cases hi : Tryz.prog.info? 9 with
    | none => rw [hi] at h; cases h
    | some i0 => rw [hi] at h; exact ⟨i0, rfl, by simpa using h⟩
  obtain ⟨hH, rfl, h1, h2, _⟩ := hB.cut (enc := Value.string) (⟨#[]⟩ : ByteArray) hp 0
  have key := Tryz.slices_Delete_f65 Value.string (fun _ => rfl) (⟨#[]⟩ : ByteArray) Tryz.zeroValue9 i0 hi0 hz1 g 0 cap p (p + 1) l.toArray w hH (by simpa using h1) h2 (by omega) (by rw [List.size_toArray]; omega)
  refine Calls.mono key ?_
  rintro e w' ⟨e1, q, e2⟩
  obtain ⟨_, _, _, _, hC, hX⟩ := hB.cut (enc := Value.string) (⟨#[]⟩ : ByteArray) hp q
  rw [show p + 1 - p = 1 by omega] at e1 e2
  refine ⟨_, e1, ?_, by show 0 < cap; omega, by show 0 < cap; omega, by rw [e2]; exact hX⟩
  rw [e2]
  have es : l.toArray.size - 1 = l.length - 1 := by simp
  rw [es]
  exact hC
theorem deleteI_call {lo hi : Nat} (l : List Int) (v : Value) (g p : Nat) (w : World) (hB : BufS lo hi w v l.length 1 (ints l) g) (hp : p < l.length) (hl : l.length ≤ 8388608) :
    Calls Tryz.prog 66 #[v, .int .i64 (p : Int), .int .i64 ((p : Int) + 1)] w fun e w' => ∃ v', e = .returned v' ∧ BufS lo hi w' v' (l.length - 1) 1 (ints (l.eraseIdx p)) g ∧ 0 < capV v' ∧ 0 < capV v ∧ ExcP (fun j => j = g) w w' := by
  obtain ⟨ad, cap, rfl, _⟩ := id hB
  obtain ⟨i0, hi0, hz1⟩ : ∃ i0, Tryz.prog.info? 3 = some i0 ∧ i0.size = 1 := by
    have h : (Tryz.prog.info? 3).map (·.size) = some 1 := by kernel_rfl
    cases hi : Tryz.prog.info? 3 with
    | none => rw [hi] at h; cases h
    | some i0 => rw [hi] at h; exact ⟨i0, rfl, by simpa using h⟩
  obtain ⟨hH, rfl, h1, h2, _⟩ := hB.cut (enc := (Value.int .i64)) (0 : Int) hp 0
  have key := Tryz.slices_Delete_f66 (Value.int .i64) (fun _ => rfl) (0 : Int) Tryz.zeroValue3 i0 hi0 hz1 g 0 cap p (p + 1) l.toArray w hH (by simpa using h1) h2 (by omega) (by rw [List.size_toArray]; omega)
  refine Calls.mono key ?_
  rintro e w' ⟨e1, q, e2⟩
  obtain ⟨_, _, _, _, hC, hX⟩ := hB.cut (enc := (Value.int .i64)) (0 : Int) hp q
  rw [show p + 1 - p = 1 by omega] at e1 e2
  refine ⟨_, e1, ?_, by show 0 < cap; omega, by show 0 < cap; omega, by rw [e2]; exact hX⟩
  rw [e2]
  have es : l.toArray.size - 1 = l.length - 1 := by simp
  rw [es]
  exact hC
theorem index_call (l : List ByteArray) (v : Value) (x : ByteArray) (w : World) (hR : Row1 w v (strs l)) (ha : Asc l) (hx : l[posN l x]? = some x) (hl : l.length ≤ 8388608) :
    Gives Tryz.prog 64 #[v, .string x] w (.int .i64 (posN l x : Nat)) := by
  obtain ⟨ad, cap, rfl, hlc, hcm, hat⟩ := hR
  rw [List.length_map] at hlc hat ⊢
  have hlt := (List.getElem?_eq_some_iff.1 hx).1
  obtain ⟨b, o, rfl, hc⟩ := hat (by omega)
  refine (Tryz.slices_Index Value.string _ (EqlAt.string Tryz.prog 9) b o l.length cap l x w (Nat.le_refl _) (by omega) (fun j hj => ?_)).mono fun e w' ⟨h1, h2⟩ => ⟨?_, by subst h2; exact Vc.Ext.refl _⟩
  · have hu : l[j]? = some l[j] := List.getElem?_eq_getElem hj
    rw [getElem!_pos l j hj]
    exact hc.out j _ (strs_get hu)
  · rw [h1, List.take_length]
    have := Lib.idxByFrom_hit (fun x y : ByteArray => x.toList == y.toList) x l (posN l x) 0 hlt (by
      rw [getElem!_pos l _ hlt, (List.getElem?_eq_some_iff.1 hx).2]; simp) (fun j hj => by
      have hj' : j < l.length := by omega
      rw [getElem!_pos l j hj']
      have hu : l[j]? = some l[j] := List.getElem?_eq_getElem hj'
      rw [Bool.eq_false_iff]
      intro he
      rw [toList_beq] at he
      have := of_decide_eq_true he
      rw [← this] at hu
      have := posN_eq ha hu
      omega)
    rw [Lib.idxBy, this, Nat.zero_add]
/-- What stands behind a name that may go. -/
theorem drop_cases (ts : List Nd) (c : Cr) (s : ByteArray) (full : Bool) : (dropF (abvF ts c s) ts c full ≠ 0) ∨
    (∃ (k j : Nat) (n m : Nd) (x : ByteArray × ByteArray), dropF (abvF ts c s) ts c full = 0 ∧ aboveOf s = some x ∧ findF ts c x.1 = ((k : Int), 0) ∧ abvF ts c s = ⟨(k : Int), x.2, 0⟩ ∧ ts[k]? = some n ∧ k < ts.length ∧ TreeOk ts ∧ n.Ok ∧ n.kid x.2 = (j : Int) ∧ ts[j]? = some m ∧ 1 ≤ j ∧
      n.names[posN n.names x.2]? = some x.2 ∧ n.kids[posN n.names x.2]? = some (j : Int)) := by
  by_cases h0 : dropF (abvF ts c s) ts c full = 0
  · right
    rcases abv_cases ts c s with ⟨f, he, h1, h4⟩ | ⟨k, n, x, hab, hfi, he, hn, hk, hT, hc, hok, hfo, hma⟩
    · rw [he, dropF] at h0; simp only at h0; rw [if_pos (by omega)] at h0; omega
    · have h0' := h0
      rw [he, dropF, if_neg (by simp)] at h0
      simp only [Int.toNat_natCast, hn] at h0
      by_cases hp : n.names[posN n.names x.2]? = some x.2
      · have hlt : posN n.names x.2 < n.kids.length := by rw [← hok.len]; exact (List.getElem?_eq_some_iff.1 hp).1
        have hki : n.kids[posN n.names x.2]? = some n.kids[posN n.names x.2] := List.getElem?_eq_getElem hlt
        generalize n.kids[posN n.names x.2] = q at hki
        have hq := hT.kids k n hn q (List.mem_of_getElem? hki)
        obtain ⟨j, rfl⟩ := Int.eq_ofNat_of_zero_le (by omega : (0 : Int) ≤ q)
        have hj : j < ts.length := by have := hT.lo; omega
        exact ⟨k, j, n, ts[j], x, h0', hab, hfi, he, hn, hk, hT, hok, kid_at hok.asc' hp hki, List.getElem?_eq_getElem hj, by omega, hp, hki⟩
      · rw [kid_no hok.asc' hp, if_pos (by omega)] at h0; omega
  · exact .inl h0
/-- One node turns, its slices in the blocks they were in. -/
theorem TB.same {lo hi : Nat} {w w' : World} {ad : Option Addr} {cap g k : Nat} {ts : List Nd} {bl : Nat → Bool → Nat} {pv : Nat → Bool → Value} (h : TB lo hi w ad cap g ts bl pv) {n n' : Nd} {v1 v2 : Value} (hk : ts[k]? = some n) (hh : hi ≤ w.heap.size)
    (hX : ExcP (fun j => (j = bl k true ∧ 0 < capV (pv k true)) ∨ (j = bl k false ∧ 0 < capV (pv k false)) ∨ j = g) w w')
    (hm : MutN w' g 0 (cap * 7)) (hc : CellsAt w' g (k * 7) (n'.cells v1 v2)) (hco : ∀ i m, i ≠ k → ts[i]? = some m → CellsAt w' g (i * 7) (m.cells (pv i true) (pv i false)))
    (hB1 : BufS lo hi w' v1 n'.names.length 1 (strs n'.names) (bl k true)) (hB2 : BufS lo hi w' v2 n'.kids.length 1 (ints n'.kids) (bl k false)) (h1 : 0 < capV (pv k true)) (h2 : 0 < capV (pv k false)) :
    TB lo hi w' ad cap g (ts.set k n') bl (fun i b => if i = k then cond b v1 v2 else pv i b) := by
  have hkl := (List.getElem?_eq_some_iff.1 hk).1
  have hcp : ∀ b, 0 < capV (pv k b) := fun b => by cases b; exact h2; exact h1
  have key := h.turn (w' := w') (hi' := hi) (n' := n') (p1 := fun b => cond b v1 v2) (b1 := fun b => bl k b) hk hX hh (Nat.le_refl _) ⟨hm, hc, hco⟩ (fun i b hi hik hc' => ?_) (fun b => ?_) (fun _ _ => h.ne k true k false hkl hkl (.inr (by simp)) h1 h2) (fun b _ => ⟨h.neG k b hkl (hcp b), fun i b' hi hik hc' => h.ne i b' k b hi hkl (.inl hik) hc' (hcp b)⟩)
  · have e : (fun i b => if i = k then bl k b else bl i b) = bl := by
      funext i b
      by_cases h : i = k
      · rw [if_pos h, h]
      · rw [if_neg h]
    rwa [e] at key
  · rintro (⟨e, e0⟩ | ⟨e, e0⟩ | e)
    · exact h.ne i b k true hi hkl (.inl hik) hc' e0 e
    · exact h.ne i b k false hi hkl (.inl hik) hc' e0 e
    · exact h.neG i b hi hc' e
  · cases b
    · exact hB2
    · exact hB1
theorem CellsAt.off {w : World} {b o o' : Nat} {l : List Value} (h : CellsAt w b o l) (e : o = o') : CellsAt w b o' l := e ▸ h
theorem cntNds_setx {ts : List Nd} : ∀ {k : Nat} {n n' : Nd}, ts[k]? = some n → cntNds (ts.set k n') + n.cnt = cntNds ts + n'.cnt := by
  induction ts with
  | nil => intro k n n' h; simp at h
  | cons m r ih =>
    intro k n n' h
    cases k with
    | zero => simp at h; subst h; simp only [List.set_cons_zero, cntNds]; omega
    | succ k =>
      have := ih (n' := n') (by simpa using h)
      simp only [List.set_cons_succ, cntNds]; omega
theorem del_cnt (n : Nd) (p : Nat) : (n.del p).cnt ≤ n.cnt := by
  rw [Nd.cnt, Nd.cnt]
  have h1 : (n.names.eraseIdx p).length ≤ n.names.length := by rw [List.length_eraseIdx]; split <;> omega
  have h2 : (n.kids.eraseIdx p).length ≤ n.kids.length := by rw [List.length_eraseIdx]; split <;> omega
  show 5 + (n.names.eraseIdx p).length + (n.kids.eraseIdx p).length ≤ _
  omega
end Go.Proofs.YtbnjjpgacemicaaGreatDoor
