/-
  The path of names, without the program.
  Conditions: none.
-/
import Derived.Test.YtbnjjpgacemicaaGreatDoorNamesP
import Derived.Lib.Join
namespace Go.Proofs.YtbnjjpgacemicaaGreatDoor
open Go.RowKit

theorem empty_text2 (l : List UInt8) : ((⟨l.toArray⟩ : ByteArray).toList == (⟨#[]⟩ : ByteArray).toList) = l.isEmpty := by
  rw [ByteArray.toList_eq, ByteArray.toList_eq]
  cases l <;> simp
/-- The first text that is no name. -/
def bix (l : List ByteArray) : Int := match l.findIdx? (fun s => !nameOk s.data.toList) with
  | some i => i
  | none => -1
theorem bix_hit {l : List ByteArray} {k : Nat} {s : ByteArray} (hu : l[k]? = some s) (hb : nameOk s.data.toList = false) (hn : ∀ (j : Nat) (y : ByteArray), j < k → l[j]? = some y → nameOk y.data.toList = true) : bix l = k := by
  obtain ⟨h1, rfl⟩ := List.getElem?_eq_some_iff.1 hu
  have : l.findIdx? (fun s => !nameOk s.data.toList) = some k := by
    rw [List.findIdx?_eq_some_iff_getElem]
    exact ⟨h1, by simp [hb], fun j hj => by simp [hn j _ hj (List.getElem?_eq_getElem (by omega))]⟩
  rw [bix, this]
theorem bix_none {l : List ByteArray} (hn : ∀ (j : Nat) (y : ByteArray), j < l.length → l[j]? = some y → nameOk y.data.toList = true) : bix l = -1 := by
  have : l.findIdx? (fun s => !nameOk s.data.toList) = none := by
    rw [List.findIdx?_eq_none_iff]
    intro x hx
    obtain ⟨i, hi, rfl⟩ := List.getElem_of_mem hx
    simp [hn i _ hi (List.getElem?_eq_getElem hi)]
  rw [bix, this]
theorem bix_ok {l : List ByteArray} (h : ¬ 0 ≤ bix l) : ∀ s ∈ l, nameOk s.data.toList = true := by
  unfold bix at h
  cases hf : l.findIdx? (fun s => !nameOk s.data.toList) with
  | some i => rw [hf] at h; simp only at h; omega
  | none =>
    intro s hs
    have := List.findIdx?_eq_none_iff.1 hf s hs
    simpa using this
/-- The path of names. -/
def joinB (l : List ByteArray) : ByteArray := if 6 < l.length ∨ 0 ≤ bix l then ⟨#[]⟩ else ⟨(47 :: Lib.join (l.map (·.data.toList)) [47]).toArray⟩
theorem joinTail_len (r : List (List UInt8)) (h : ∀ x ∈ r, x.length ≤ 8) : (Lib.joinTail [47] r).length ≤ r.length * 9 := by
  induction r with
  | nil => simp [Lib.joinTail]
  | cons x r ih =>
    have := ih fun y hy => h y (List.mem_cons_of_mem _ hy)
    have h0 := h x List.mem_cons_self
    simp only [Lib.joinTail, List.map_cons, List.flatten_cons, List.length_append, List.length_cons, List.length_nil] at this ⊢
    omega
theorem join_len {l : List ByteArray} (h : l.length ≤ 6) (hb : ¬ 0 ≤ bix l) : (Lib.join (l.map (·.data.toList)) [47]).length ≤ 100 := by
  have hx : ∀ x ∈ l.map (·.data.toList), x.length ≤ 8 := by
    intro x hx
    obtain ⟨s, hs, rfl⟩ := List.mem_map.1 hx
    have := bix_ok hb s hs
    simp only [nameOk, Bool.and_eq_true, decide_eq_true_eq] at this
    exact this.2
  cases l with
  | nil => simp [Lib.join_nil]
  | cons s r =>
    rw [List.map_cons, Lib.join_cons, List.length_append]
    have h1 := hx _ List.mem_cons_self
    have h2 := joinTail_len (r.map (·.data.toList)) fun y hy => hx y (List.mem_cons_of_mem _ hy)
    rw [List.length_map] at h2
    simp only [List.length_cons] at h
    simp only at h1
    omega
def jn (l : List ByteArray) : List UInt8 := l.flatMap fun s => 47 :: s.data.toList
theorem jn_join (s : ByteArray) (r : List ByteArray) : jn (s :: r) = 47 :: Lib.join ((s :: r).map (·.data.toList)) [47] := by
  rw [List.map_cons, Lib.join_cons]
  simp [jn, Lib.joinTail, List.flatMap_def, Function.comp_def]
theorem jn_snoc {l : List ByteArray} {k : Nat} {s : ByteArray} (h : l[k]? = some s) : jn (l.take (k + 1)) = jn (l.take k) ++ 47 :: s.data.toList := by
  obtain ⟨h1, rfl⟩ := List.getElem?_eq_some_iff.1 h
  rw [List.take_succ_eq_append_getElem h1, jn, List.flatMap_append, List.flatMap_singleton]
  rfl
end Go.Proofs.YtbnjjpgacemicaaGreatDoor
