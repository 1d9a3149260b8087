/-
  Kids that turn in place, in plain terms and in memory.
  Conditions: none.
-/
import Derived.Test.YtbnjjpgacemicaaGreatDoorDropN
namespace Go.Proofs.YtbnjjpgacemicaaGreatDoor
open Go.RowKit Vc
set_option linter.unusedVariables false
set_option maxHeartbeats 1000000
attribute [local irreducible] WpC WpL WpD WpE WpB CallV QCallV Made AppV Ld LdN Ix EndV I64 MutN Mut CellsAt

def Nd.mapK (φ : Int → Int) (n : Nd) : Nd := { n with kids := n.kids.map φ }
/-- The kids of the first i nodes have turned. -/
def midK (φ : Int → Int) (us : List Nd) (i : Nat) : List Nd := us.mapIdx fun k n => if k < i then n.mapK φ else n
/-- The first j kids have turned. -/
def kidsMid (φ : Int → Int) (l : List Int) (j : Nat) : List Int := l.mapIdx fun k q => if k < j then φ q else q
def Nd.midN (φ : Int → Int) (n : Nd) (j : Nat) : Nd := { n with kids := kidsMid φ n.kids j }
section
variable {φ : Int → Int}
@[simp] theorem midK_length (us : List Nd) (i : Nat) : (midK φ us i).length = us.length := by simp [midK]
@[simp] theorem kidsMid_length (l : List Int) (j : Nat) : (kidsMid φ l j).length = l.length := by simp [kidsMid]
theorem midK_zero (us : List Nd) : midK φ us 0 = us := List.ext_getElem? fun k => by
  simp only [midK, List.getElem?_mapIdx]
  cases us[k]? <;> simp
theorem kidsMid_zero (l : List Int) : kidsMid φ l 0 = l := List.ext_getElem? fun k => by
  simp only [kidsMid, List.getElem?_mapIdx]
  cases l[k]? <;> simp
theorem midN_zero (n : Nd) : n.midN φ 0 = n := by unfold Nd.midN; rw [kidsMid_zero]
theorem midK_at (us : List Nd) (i : Nat) : (midK φ us i)[i]? = us[i]? := by
  simp only [midK, List.getElem?_mapIdx]
  cases us[i]? <;> simp
theorem kidsMid_at (l : List Int) (j : Nat) : (kidsMid φ l j)[j]? = l[j]? := by
  simp only [kidsMid, List.getElem?_mapIdx]
  cases l[j]? <;> simp
theorem midK_succ {us : List Nd} {i : Nat} {n : Nd} (h : us[i]? = some n) : (midK φ us i).set i (n.mapK φ) = midK φ us (i + 1) := by
  refine List.ext_getElem? fun k => ?_
  rw [List.getElem?_set, midK_length]
  simp only [midK, List.getElem?_mapIdx]
  by_cases hk : i = k
  · subst hk
    rw [if_pos rfl, if_pos (List.getElem?_eq_some_iff.1 h).1, h]; simp
  · rw [if_neg hk]
    cases us[k]? with
    | none => rfl
    | some m =>
      simp only [Option.map_some]
      by_cases h1 : k < i
      · rw [if_pos h1, if_pos (by omega)]
      · rw [if_neg h1, if_neg (by omega)]
theorem kidsMid_succ {l : List Int} {j : Nat} {q : Int} (h : l[j]? = some q) : (kidsMid φ l j).set j (φ q) = kidsMid φ l (j + 1) := by
  refine List.ext_getElem? fun k => ?_
  rw [List.getElem?_set, kidsMid_length]
  simp only [kidsMid, List.getElem?_mapIdx]
  by_cases hk : j = k
  · subst hk
    rw [if_pos rfl, if_pos (List.getElem?_eq_some_iff.1 h).1, h]; simp
  · rw [if_neg hk]
    cases l[k]? with
    | none => rfl
    | some m =>
      simp only [Option.map_some]
      by_cases h1 : k < j
      · rw [if_pos h1, if_pos (by omega)]
      · rw [if_neg h1, if_neg (by omega)]
theorem kidsMid_same {l : List Int} {j : Nat} {q : Int} (h : l[j]? = some q) (hq : φ q = q) : kidsMid φ l (j + 1) = kidsMid φ l j := by
  rw [← kidsMid_succ h, hq]
  refine List.ext_getElem? fun k => ?_
  rw [List.getElem?_set, kidsMid_length]
  by_cases hk : j = k
  · subst hk
    rw [if_pos rfl, if_pos (List.getElem?_eq_some_iff.1 h).1, kidsMid_at, h]
  · rw [if_neg hk]
theorem midK_all (us : List Nd) : midK φ us us.length = us.map (Nd.mapK φ) := by
  refine List.ext_getElem? fun k => ?_
  simp only [midK, List.getElem?_mapIdx, List.getElem?_map]
  cases h : us[k]? with
  | none => rfl
  | some m => simp only [Option.map_some]; rw [if_pos (List.getElem?_eq_some_iff.1 h).1]
theorem kidsMid_all (l : List Int) : kidsMid φ l l.length = l.map φ := by
  refine List.ext_getElem? fun k => ?_
  simp only [kidsMid, List.getElem?_mapIdx, List.getElem?_map]
  cases h : l[k]? with
  | none => rfl
  | some m => simp only [Option.map_some]; rw [if_pos (List.getElem?_eq_some_iff.1 h).1]
theorem midN_all (n : Nd) : n.midN φ n.kids.length = n.mapK φ := by unfold Nd.midN Nd.mapK; rw [kidsMid_all]
theorem midN_succ {n : Nd} {j : Nat} {q : Int} (h : n.kids[j]? = some q) : { n.midN φ j with kids := (n.midN φ j).kids.set j (φ q) } = n.midN φ (j + 1) := by
  unfold Nd.midN
  simp only [kidsMid_succ h]
theorem midN_same {n : Nd} {j : Nat} {q : Int} (h : n.kids[j]? = some q) (hq : φ q = q) : n.midN φ (j + 1) = n.midN φ j := by
  unfold Nd.midN
  rw [kidsMid_same h hq]
end
/-- One kid turns. -/
theorem TB.kidAt {lo hi : Nat} {w : World} {ad : Option Addr} {cap g k j : Nat} {ts : List Nd} {bl : Nat → Bool → Nat} {pv : Nat → Bool → Value} (h : TB lo hi w ad cap g ts bl pv) (hh : hi ≤ w.heap.size) {n : Nd} (hk : ts[k]? = some n) (hj : j < n.kids.length) (x : Int) :
    (∃ kcap, pv k false = .slice (some ⟨bl k false, 0, none⟩) n.kids.length kcap) ∧ MutN w (bl k false) (0 + j) 1 ∧ (lo ≤ bl k false ∧ bl k false < hi) ∧ CellsAt w (bl k false) 0 (ints n.kids) ∧
    TB lo hi (setL w (bl k false) (0 + j) [.int .i64 x]) ad cap g (ts.set k { n with kids := n.kids.set j x }) bl pv := by
  have hkl := (List.getElem?_eq_some_iff.1 hk).1
  have hle := h.le
  obtain ⟨_, h1, h2, hm, hcs⟩ := h.at_ (by omega)
  have hB := h.pc k n false hk
  obtain ⟨adk, kcap, ev, hlk, hcm, hxl, hpl, hat⟩ := id hB
  simp only [contN, cont] at hlk hxl hat
  obtain ⟨rfl, b1, b2, hmk, hck⟩ := hat (by omega)
  have hcp : 0 < capV (pv k false) := by rw [ev]; show 0 < kcap; omega
  have hm1 : MutN w (bl k false) (0 + j) 1 := hmk.sub (k := j) (m := 1) (by omega)
  have hX : ExcP (fun i => i = bl k false) w (setL w (bl k false) (0 + j) [.int .i64 x]) := (ExcP.refl (fun i => i = bl k false) w).setL (S := fun i => i = bl k false) rfl _ _
  have hgk := h.neG k false hkl hcp
  refine ⟨⟨kcap, ev⟩, hm1, ⟨b1, b2⟩, hck, ?_⟩
  have key := h.turn (w' := setL w (bl k false) (0 + j) [.int .i64 x]) (hi' := hi) (n' := { n with kids := n.kids.set j x }) (p1 := fun b => pv k b) (b1 := fun b => bl k b) hk hX hh (Nat.le_refl _)
    ⟨MutN.setL _ _ _ hm, (hcs k n hk).setL_out (.inl fun e => hgk e.symm), fun i m _ hm' => (hcs i m hm').setL_out (.inl fun e => hgk e.symm)⟩
    (fun i b hi hik hc e => h.ne i b k false hi hkl (.inl hik) hc hcp e) (fun b => ?_) (fun hc1 hc2 => h.ne k true k false hkl hkl (.inr (by simp)) hc1 hc2) (fun b hc => ⟨h.neG k b hkl hc, fun i b' hi hik hc' => h.ne i b' k b hi hkl (.inl hik) hc' hc⟩)
  · have e1 : (fun i b => if i = k then bl k b else bl i b) = bl := by
      funext i b
      by_cases h : i = k
      · rw [if_pos h, h]
      · rw [if_neg h]
    have e2 : (fun i b => if i = k then pv k b else pv i b) = pv := by
      funext i b
      by_cases h : i = k
      · rw [if_pos h, h]
      · rw [if_neg h]
    rwa [e1, e2] at key
  · cases b
    · refine ⟨_, kcap, (by show pv k false = .slice _ (n.kids.set j x).length kcap; rw [List.length_set]; exact ev), by simpa [contN] using hlk, hcm, by simp [contN, cont], hpl, fun _ => ⟨rfl, b1, b2, MutN.setL _ _ _ hmk, ?_⟩⟩
      have e : cont { n with kids := n.kids.set j x } false = (ints n.kids).set j (.int .i64 x) := by simp [cont, List.map_set]
      rw [e]
      exact hck.setAt hm1 (by simp; omega)
    · exact (h.pc k n true hk).exc hX (fun hc e => h.ne k true k false hkl hkl (.inr (by simp)) hc hcp e) hh (Nat.le_refl _)
end Go.Proofs.YtbnjjpgacemicaaGreatDoor
