/-
  Users, without the program: who is valid, where a name is, who is in a group.
  Conditions: none.
-/
import Derived.Test.YtifnjinkddelmaaUsr
import Derived.Test.YtifnjinkddelmaaNamesP
namespace Go.Proofs.Ytifnjinkddelmaa
open Go.RowKit

def same (a b : ByteArray) : Bool := a.toList == b.toList
/-- The place of a name. -/
def plc (us : List Us) (nm : ByteArray) : Int := match us.findIdx? fun u => same u.name nm with
  | some i => (i : Int)
  | none => -1
theorem plc_hit {us : List Us} {nm : ByteArray} {k : Nat} {u : Us} (h : us[k]? = some u) (hu : same u.name nm = true) (hn : ∀ (j : Nat) (x : Us), j < k → us[j]? = some x → same x.name nm = false) : plc us nm = k := by
  have : us.findIdx? (fun u => same u.name nm) = some k := by
    rw [List.findIdx?_eq_some_iff_getElem]
    obtain ⟨h1, rfl⟩ := List.getElem?_eq_some_iff.1 h
    refine ⟨h1, hu, fun j hj => ?_⟩
    have := hn j us[j] hj (by simp)
    simp [this]
  rw [plc, this]
theorem plc_none {us : List Us} {nm : ByteArray} (hn : ∀ (j : Nat) (x : Us), j < us.length → us[j]? = some x → same x.name nm = false) : plc us nm = -1 := by
  have : us.findIdx? (fun u => same u.name nm) = none := by
    rw [List.findIdx?_eq_none_iff]
    intro x hx
    obtain ⟨j, hj, rfl⟩ := List.getElem_of_mem hx
    exact hn j _ hj (by simp)
  rw [plc, this]
theorem plc_cases (us : List Us) (nm : ByteArray) : (∃ (k : Nat) (u : Us), plc us nm = (k : Int) ∧ us[k]? = some u ∧ same u.name nm = true ∧ ∀ (j : Nat) (x : Us), j < k → us[j]? = some x → same x.name nm = false) ∨
    (plc us nm = -1 ∧ ∀ (j : Nat) (x : Us), us[j]? = some x → same x.name nm = false) := by
  cases h : us.findIdx? fun u => same u.name nm with
  | some k =>
    refine .inl ⟨k, ?_⟩
    rw [List.findIdx?_eq_some_iff_getElem] at h
    obtain ⟨h1, h2, h3⟩ := h
    have hn : ∀ (j : Nat) (x : Us), j < k → us[j]? = some x → same x.name nm = false := by
      intro j x hj hx
      obtain ⟨h4, rfl⟩ := List.getElem?_eq_some_iff.1 hx
      have := h3 j hj
      simpa using this
    exact ⟨us[k], plc_hit (by simp) h2 hn, by simp, h2, hn⟩
  | none =>
    rw [List.findIdx?_eq_none_iff] at h
    refine .inr ⟨plc_none fun j x hj hx => ?_, fun j x hx => h x (List.mem_of_getElem? hx)⟩
    exact h x (List.mem_of_getElem? hx)

theorem plc_ge {us : List Us} {nm : ByteArray} {i k : Nat} {y : Us} (hi : i < k) (hv : us[i]? = some y) (h : same y.name nm = true) : 0 ≤ plc (us.take k) nm := by
  rcases plc_cases (us.take k) nm with ⟨j, u, hp, _⟩ | ⟨_, hn⟩
  · omega
  · have := hn i y (by rw [List.getElem?_take, if_pos hi]; exact hv)
    rw [h] at this; cases this

/-- Is the user at a place valid? -/
def uAt (us : List Us) (k : Nat) : Bool := match us[k]? with
  | none => false
  | some u => nameOk u.name.data.toList && inR u.num 0 99 && inR u.grp 0 255 && (match k with | 0 => true | j + 1 => match us[j]? with | some p => decide (p.num < u.num) | none => false) && decide (plc (us.take k) u.name < 0)
theorem uAt_name {us : List Us} {k : Nat} {u : Us} (hu : us[k]? = some u) (h : nameOk u.name.data.toList = false) : uAt us k = false := by simp [uAt, hu, h]
theorem uAt_num {us : List Us} {k : Nat} {u : Us} (hu : us[k]? = some u) (h : inR u.num 0 99 = false) : uAt us k = false := by simp [uAt, hu, h]
theorem uAt_grp {us : List Us} {k : Nat} {u : Us} (hu : us[k]? = some u) (h : inR u.grp 0 255 = false) : uAt us k = false := by simp [uAt, hu, h]
theorem uAt_plc {us : List Us} {k : Nat} {u : Us} (hu : us[k]? = some u) (h : 0 ≤ plc (us.take k) u.name) : uAt us k = false := by
  have : decide (plc (us.take k) u.name < 0) = false := by simp; omega
  simp [uAt, hu, this]
theorem uAt_ord {us : List Us} {k : Nat} {u p : Us} (hu : us[k]? = some u) (hk : 0 < k) (hp : us[k - 1]? = some p) (h : u.num ≤ p.num) : uAt us k = false := by
  obtain ⟨j, rfl⟩ : ∃ j, k = j + 1 := ⟨k - 1, by omega⟩
  have : decide (p.num < u.num) = false := by simp; omega
  simp only [Nat.add_sub_cancel] at hp
  simp [uAt, hu, hp, this]
theorem uAt_ok {us : List Us} {k : Nat} {u : Us} (hu : us[k]? = some u) (h1 : nameOk u.name.data.toList = true) (h2 : inR u.num 0 99 = true) (h3 : inR u.grp 0 255 = true) (h4 : plc (us.take k) u.name < 0)
    (h5 : ∀ p, 0 < k → us[k - 1]? = some p → p.num < u.num) : uAt us k = true := by
  cases k with
  | zero => simp only [uAt, hu, h1, h2, h3, decide_eq_true h4]; rfl
  | succ j =>
    have hj : j < us.length := by have := (List.getElem?_eq_some_iff.1 hu).1; omega
    have hp : us[j]? = some us[j] := List.getElem?_eq_getElem hj
    have := h5 us[j] (by omega) (by simp [hp])
    simp only [uAt, hu, hp, h1, h2, h3, decide_eq_true h4, decide_eq_true this]; rfl
def usersOk (us : List Us) : Bool := (List.range us.length).all (uAt us) && decide (us.length ≤ 8)
theorem usersOk_iff {us : List Us} : usersOk us = true ↔ (∀ k, k < us.length → uAt us k = true) ∧ us.length ≤ 8 := by
  simp [usersOk, List.all_eq_true]
theorem usersOk_bad {us : List Us} {k : Nat} (h : k < us.length) (hu : uAt us k = false) : usersOk us = false := by
  cases e : usersOk us with
  | false => rfl
  | true => rw [usersOk_iff] at e; rw [e.1 k h] at hu; cases hu
theorem usersOk_end {us : List Us} (h : ∀ k, k < us.length → uAt us k = true) : usersOk us = decide (us.length ≤ 8) := by
  unfold usersOk
  rw [List.all_eq_true.2 (by simpa using h)]
  rfl
/-- The number of the user with a name. -/
def userNo (us : List Us) (nm : ByteArray) : Int := if usersOk us then (match us.find? fun u => same u.name nm with | some u => u.num | none => -1) else -1
theorem find_hit {us : List Us} {nm : ByteArray} {k : Nat} {u : Us} (h : us[k]? = some u) (hu : same u.name nm = true) (hn : ∀ (j : Nat) (x : Us), j < k → us[j]? = some x → same x.name nm = false) : us.find? (fun u => same u.name nm) = some u := by
  obtain ⟨h1, rfl⟩ := List.getElem?_eq_some_iff.1 h
  rw [List.find?_eq_some_iff_getElem]
  refine ⟨hu, k, h1, rfl, fun j hj => ?_⟩
  have := hn j us[j] hj (by simp)
  simp [this]
theorem find_none {us : List Us} {nm : ByteArray} (hn : ∀ (j : Nat) (x : Us), us[j]? = some x → same x.name nm = false) : us.find? (fun u => same u.name nm) = none := by
  rw [List.find?_eq_none]
  intro x hx
  obtain ⟨j, hj, rfl⟩ := List.getElem_of_mem hx
  simp [hn j _ (List.getElem?_eq_getElem hj)]
/-- The numbers of those in a group. -/
def mems (us : List Us) (g : Int) : List Int := (us.filter fun u => hasG u.grp g).map (·.num)
def members (us : List Us) (g : Int) : List Int := if usersOk us then mems us g else []
theorem mems_snoc {us : List Us} {k : Nat} {u : Us} (h : us[k]? = some u) (g : Int) : mems (us.take (k + 1)) g = if hasG u.grp g then mems (us.take k) g ++ [u.num] else mems (us.take k) g := by
  obtain ⟨h1, rfl⟩ := List.getElem?_eq_some_iff.1 h
  unfold mems
  rw [List.take_succ_eq_append_getElem h1, List.filter_append, List.map_append]
  cases hg : hasG us[k].grp g <;> simp [hg]
end Go.Proofs.Ytifnjinkddelmaa
