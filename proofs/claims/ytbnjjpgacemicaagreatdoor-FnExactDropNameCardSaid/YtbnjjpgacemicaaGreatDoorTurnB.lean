/-
  Trees that turn: one node turns.
  Conditions: none.
-/
import Derived.Test.YtbnjjpgacemicaaGreatDoorCopy
namespace Go.Proofs.YtbnjjpgacemicaaGreatDoor
open Go.RowKit Vc
set_option linter.unusedVariables false
set_option maxHeartbeats 1000000
attribute [local irreducible] WpC WpL WpD WpE WpB CallV QCallV Made AppV Ld LdN Ix EndV I64 MutN Mut CellsAt

theorem set_get {α : Type} {l : List α} {k i : Nat} {x y : α} (h : (l.set k x)[i]? = some y) : (i = k ∧ y = x ∧ k < l.length) ∨ (i ≠ k ∧ l[i]? = some y) := by
  rw [List.getElem?_set] at h
  by_cases e : k = i
  · subst e
    rw [if_pos rfl] at h
    split at h
    · rename_i hlt; cases h; exact .inl ⟨rfl, rfl, hlt⟩
    · cases h
  · rw [if_neg e] at h; exact .inr ⟨fun e' => e e'.symm, h⟩
theorem TB.turn {S : Nat → Prop} {lo hi hi' : Nat} {w w' : World} {ad : Option Addr} {cap g k : Nat} {ts : List Nd} {bl : Nat → Bool → Nat} {pv : Nat → Bool → Value} (h : TB lo hi w ad cap g ts bl pv) {n n' : Nd} {p1 : Bool → Value} {b1 : Bool → Nat}
    (hk : ts[k]? = some n) (hX : ExcP S w w') (hh : hi ≤ w.heap.size) (hhi : hi ≤ hi')
    (hat : MutN w' g 0 (cap * 7) ∧ CellsAt w' g (k * 7) (n'.cells (p1 true) (p1 false)) ∧ ∀ i m, i ≠ k → ts[i]? = some m → CellsAt w' g (i * 7) (m.cells (pv i true) (pv i false)))
    (hS : ∀ i b, i < ts.length → i ≠ k → 0 < capV (pv i b) → ¬ S (bl i b))
    (hP : ∀ b, BufS lo hi' w' (p1 b) (contN n' b) 1 (cont n' b) (b1 b)) (hne : 0 < capV (p1 true) → 0 < capV (p1 false) → b1 true ≠ b1 false)
    (hnew : ∀ b, 0 < capV (p1 b) → b1 b ≠ g ∧ ∀ i b', i < ts.length → i ≠ k → 0 < capV (pv i b') → bl i b' ≠ b1 b) :
    TB lo hi' w' ad cap g (ts.set k n') (fun i b => if i = k then b1 b else bl i b) (fun i b => if i = k then p1 b else pv i b) := by
  have hlen : (ts.set k n').length = ts.length := by simp
  refine ⟨by rw [hlen]; exact h.le, h.max, h.plain, fun h0 => ?_, fun i m b hm => ?_, fun i b j b' hi hj hd hc hc' => ?_, fun i b hi hc => ?_⟩
  · obtain ⟨a, b, c, _, _⟩ := h.at_ h0
    refine ⟨a, b, by omega, hat.1, fun i m hm => ?_⟩
    rcases set_get hm with ⟨rfl, rfl, _⟩ | ⟨hik, hm'⟩
    · rw [if_pos rfl, if_pos rfl]; exact hat.2.1
    · rw [if_neg hik, if_neg hik]; exact hat.2.2 i m hik hm'
  · rcases set_get hm with ⟨rfl, rfl, _⟩ | ⟨hik, hm'⟩
    · rw [if_pos rfl, if_pos rfl]; exact hP b
    · rw [if_neg hik, if_neg hik]
      exact (h.pc i m b hm').exc hX (hS i b (List.getElem?_eq_some_iff.1 hm').1 hik) hh hhi
  · rw [hlen] at hi hj
    by_cases h1 : i = k <;> by_cases h2 : j = k
    · subst h1 h2
      rw [if_pos rfl] at hc hc' ⊢
      rw [if_pos rfl]
      have hbb : b ≠ b' := hd.resolve_left (by simp)
      cases b <;> cases b'
      · exact absurd rfl hbb
      · exact (hne hc' hc).symm
      · exact hne hc hc'
      · exact absurd rfl hbb
    · rw [if_pos h1] at hc ⊢
      rw [if_neg h2] at hc' ⊢
      exact ((hnew b hc).2 j b' hj h2 hc').symm
    · rw [if_neg h1] at hc ⊢
      rw [if_pos h2] at hc' ⊢
      exact (hnew b' hc').2 i b hi h1 hc
    · rw [if_neg h1] at hc ⊢
      rw [if_neg h2] at hc' ⊢
      exact h.ne i b j b' hi hj hd hc hc'
  · rw [hlen] at hi
    by_cases h1 : i = k
    · rw [if_pos h1] at hc ⊢
      exact (hnew b hc).1
    · rw [if_neg h1] at hc ⊢
      exact h.neG i b hi hc
/-- One cell of one node turns, no slice. -/
theorem TB.setC {lo hi : Nat} {w : World} {ad : Option Addr} {cap g k c : Nat} {ts : List Nd} {bl : Nat → Bool → Nat} {pv : Nat → Bool → Value} (h : TB lo hi w ad cap g ts bl pv) {n n' : Nd} {x : Value}
    (hk : ts[k]? = some n) (hh : hi ≤ w.heap.size) (hc : c < 7) (hcells : n'.cells (pv k true) (pv k false) = (n.cells (pv k true) (pv k false)).set c x) (hnm : n'.names = n.names) (hkd : n'.kids = n.kids) :
    TB lo hi (setL w g (0 + k * 7 + c) [x]) ad cap g (ts.set k n') (fun i b => if i = k then bl k b else bl i b) (fun i b => if i = k then pv k b else pv i b) := by
  have hkl := (List.getElem?_eq_some_iff.1 hk).1
  have hle := h.le
  obtain ⟨_, h1, h2, hm, hcs⟩ := h.at_ (by omega)
  have hm1 : MutN w g (0 + k * 7 + c) 1 := by
    have := hm.sub (k := k * 7 + c) (m := 1) (by omega)
    rwa [← Nat.add_assoc] at this
  have hX : ExcP (fun j => j = g) w (setL w g (0 + k * 7 + c) [x]) := (ExcP.refl (fun j => j = g) w).setL (S := fun j => j = g) rfl _ _
  refine h.turn hk hX hh (Nat.le_refl _) ⟨MutN.setL _ _ _ hm, ?_, fun i m hik hm' => ?_⟩ (fun i b hi _ hc' e => h.neG i b hi hc' e) (fun b => ?_) (fun hc1 hc2 => h.ne k true k false hkl hkl (.inr (by simp)) hc1 hc2) (fun b hc' => ⟨h.neG k b hkl hc', fun i b' hi hik hc'' => h.ne i b' k b hi hkl (.inl hik) hc'' hc'⟩)
  · rw [hcells]
    have := (hcs k n hk).setAt (c := c) (x := x) (by rwa [Nat.zero_add] at hm1) (by show c < 7; exact hc)
    rwa [Nat.zero_add]
  · refine (hcs i m hm').setL_out (.inr ?_)
    have e : (m.cells (pv i true) (pv i false)).length = 7 := rfl
    rw [e]
    simp only [List.length_cons, List.length_nil]
    omega
  · have := (h.pc k n b hk).exc hX (fun hc' e => h.neG k b hkl hc' e) hh (Nat.le_refl _)
    have e1 : contN n' b = contN n b := by cases b <;> simp [contN, hnm, hkd]
    have e2 : cont n' b = cont n b := by cases b <;> simp [cont, hnm, hkd]
    rw [e1, e2]; exact this
theorem TB.nil {lo hi : Nat} {w : World} {g : Nat} {bl : Nat → Bool → Nat} {pv : Nat → Bool → Value} : TB lo hi w none 0 g [] bl pv :=
  ⟨Nat.le_refl _, by omega, fun p e => (by cases e), fun h => absurd h (by omega), fun i n b h => by simp at h, fun i b j b' h => absurd h (by simp), fun i b h => absurd h (by simp)⟩
theorem TreeB.nil (lo hi : Nat) (w : World) : TreeB lo hi w (.slice none 0 0) [] := ⟨none, 0, 0, fun _ _ => 0, fun _ _ => .slice none 0 0, rfl, TB.nil⟩
theorem TreeB.empty (lo hi : Nat) (w : World) (b o : Nat) : TreeB lo hi w (.slice (some ⟨b, o, none⟩) 0 0) [] := ⟨_, 0, 0, fun _ _ => 0, fun _ _ => .slice none 0 0, rfl, TB.empty⟩
theorem TB.fin {lo lo' hi hi' m : Nat} {w : World} {ad : Option Addr} {cap g : Nat} {ts : List Nd} {bl : Nat → Bool → Nat} {pv : Nat → Bool → Value} (h : TB lo hi w ad cap g ts bl pv) (hl : lo' ≤ lo) (hh : hi ≤ hi') (e : ts.length = m) : TreeB lo' hi' w (.slice ad m cap) ts :=
  ⟨ad, cap, g, bl, pv, by rw [e], (h.low hl).ext (Vc.Ext.refl _) hh⟩
theorem TB.open_ {lo hi : Nat} {w : World} {ad : Option Addr} {cap g k : Nat} {ts : List Nd} {bl : Nat → Bool → Nat} {pv : Nat → Bool → Value} (h : TB lo hi w ad cap g ts bl pv) (hk : k < ts.length) : ad = some ⟨g, 0, none⟩ ∧ lo ≤ g ∧ g < hi ∧ MutN w g 0 (cap * 7) ∧ ∀ i n, ts[i]? = some n → CellsAt w g (i * 7) (n.cells (pv i true) (pv i false)) := h.at_ (by have := h.le; omega)
/-- What the functions that hand back a tree and a fault do. -/
def Turns (f : FuncId) (args : Array Value) (w : World) (p : List Nd × Int) : Prop :=
  Calls Tryz.prog f args w fun e w' => ∃ v, e = .returned v ∧ (∃ u, v = .tuple #[u, .int .i64 p.2] ∧ TreeB w.heap.size w'.heap.size w' u p.1) ∧ Vc.Ext w w'
theorem Turns.out {f : FuncId} {args : Array Value} {w : World} {p : List Nd × Int} (h : Turns f args w p) : Calls Tryz.prog f args w fun e w' => ∃ v, e = .returned v ∧ (∃ u, v = .tuple #[u, .int .i64 p.2] ∧ TreeB w.heap.size w'.heap.size w' u p.1) ∧ Vc.Ext w w' := h
theorem cntNds_set {ts : List Nd} : ∀ {k : Nat} {n n' : Nd}, ts[k]? = some n → n'.cnt = n.cnt → cntNds (ts.set k n') = cntNds ts := by
  induction ts with
  | nil => intro k n n' h _; simp at h
  | cons m r ih =>
    intro k n n' h e
    cases k with
    | zero => simp at h; subst h; simp [cntNds, e]
    | succ k => rw [List.set_cons_succ, cntNds, cntNds, ih (by simpa using h) e]
theorem EndV.tree {H : List OE} {A w : World} {u : Value} {p : List Nd × Int} (hx : Vc.Ext w A) (h : TreeB w.heap.size A.heap.size A u p.1) : EndV H A (fun e w' => ∃ v, e = .returned v ∧ (∃ u, v = .tuple #[u, .int .i64 p.2] ∧ TreeB w.heap.size w'.heap.size w' u p.1) ∧ Vc.Ext w w') (.tuple #[u, .int .i64 p.2]) :=
  EndV.mk fun w' hw' => ⟨_, rfl, ⟨u, rfl, h.ext hw' hw'.size⟩, hx.trans hw'⟩
/-- One node turns wholly. -/
theorem TB.setN {lo hi : Nat} {w : World} {ad : Option Addr} {cap g k : Nat} {ts : List Nd} {bl : Nat → Bool → Nat} {pv : Nat → Bool → Value} (h : TB lo hi w ad cap g ts bl pv) {n n' : Nd} {v1 v2 : Value} {g1 g2 : Nat} (hk : ts[k]? = some n) (hh : hi ≤ w.heap.size)
    (hB1 : BufS hi w.heap.size w v1 n'.names.length 1 (strs n'.names) g1) (hB2 : BufS hi w.heap.size w v2 n'.kids.length 1 (ints n'.kids) g2) (hne : 0 < capV v1 → 0 < capV v2 → g1 ≠ g2) :
    TB lo (setL w g (0 + k * 7) (n'.cells v1 v2)).heap.size (setL w g (0 + k * 7) (n'.cells v1 v2)) ad cap g (ts.set k n') (fun i b => if i = k then cond b g1 g2 else bl i b) (fun i b => if i = k then cond b v1 v2 else pv i b) := by
  have hkl := (List.getElem?_eq_some_iff.1 hk).1
  have hle := h.le
  obtain ⟨_, h1, h2, hm, hcs⟩ := h.at_ (by omega)
  have hX : ExcP (fun j => j = g) w (setL w g (0 + k * 7) (n'.cells v1 v2)) := (ExcP.refl (fun j => j = g) w).setL (S := fun j => j = g) rfl _ _
  have hlo : lo ≤ hi := by omega
  have hmk : MutN w g (0 + k * 7) (n'.cells v1 v2).length := by
    have e : (n'.cells v1 v2).length = 7 := rfl
    rw [e]
    exact hm.sub (k := k * 7) (m := 7) (by omega)
  refine h.turn (n' := n') (p1 := fun b => cond b v1 v2) (b1 := fun b => cond b g1 g2) hk hX hh (by have := hX.size; omega) ⟨MutN.setL _ _ _ hm, ?_, fun i m hik hm' => ?_⟩ (fun i b hi _ hc' e => h.neG i b hi hc' e) (fun b => ?_) hne (fun b hc => ?_)
  · have := CellsAt.setL_in hmk
    rwa [Nat.zero_add] at this ⊢
  · refine (hcs i m hm').setL_out (.inr ?_)
    have e : (m.cells (pv i true) (pv i false)).length = 7 := rfl
    have e' : (n'.cells v1 v2).length = 7 := rfl
    rw [e, e']
    omega
  · cases b
    · exact (hB2.exc hX (fun hc e => by have := (hB2.blk hc).1; omega) (Nat.le_refl _) hX.size).low hlo
    · exact (hB1.exc hX (fun hc e => by have := (hB1.blk hc).1; omega) (Nat.le_refl _) hX.size).low hlo
  · have hge : hi ≤ cond b g1 g2 := by
      cases b
      · exact (hB2.blk hc).1
      · exact (hB1.blk hc).1
    refine ⟨by omega, fun i b' hi' _ hc' => ?_⟩
    have := (h.blk hi' hc').2
    omega
end Go.Proofs.YtbnjjpgacemicaaGreatDoor
