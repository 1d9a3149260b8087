/-
  Paths, without the program: the names of a path, and what cutting a text at its slashes gives.
  Conditions: none.
-/
import Derived.Test.YtbnjjpgacemicaaGreatDoorJoinP
import Derived.Lib.Split
namespace Go.Proofs.YtbnjjpgacemicaaGreatDoor
open Go.RowKit

/-- Names that make a path. -/
def Good (l : List ByteArray) : Prop := l.length ≤ 6 ∧ ∀ s ∈ l, nameOk s.data.toList = true
theorem name_47 {l : List UInt8} (h : nameOk l = true) : (47 : UInt8) ∉ l := by
  simp only [nameOk, Bool.and_eq_true] at h
  obtain ⟨⟨h, _⟩, _⟩ := h
  cases l with
  | nil => simp
  | cons c t =>
    simp only [preOk, Bool.and_eq_true, List.all_eq_true] at h
    intro hm
    rcases List.mem_cons.1 hm with rfl | hm
    · exact absurd h.1 (by decide)
    · exact absurd (h.2 _ hm) (by decide)
theorem name_len {l : List UInt8} (h : nameOk l = true) : 1 ≤ l.length ∧ l.length ≤ 8 := by
  simp only [nameOk, Bool.and_eq_true, decide_eq_true_eq] at h
  exact ⟨h.1.2, h.2⟩
theorem Good.bix {l : List ByteArray} (h : Good l) : ¬ (6 < l.length ∨ 0 ≤ bix l) := by
  rintro (h1 | h1)
  · have := h.1; omega
  · rw [bix_none fun j y _ hy => h.2 y (List.mem_of_getElem? hy)] at h1; omega
theorem good_of {l : List ByteArray} (h : ¬ (6 < l.length ∨ 0 ≤ bix l)) : Good l := ⟨by omega, bix_ok fun h' => h (.inr h')⟩
theorem Good.path {l : List ByteArray} (h : Good l) : (joinB l).data.toList = 47 :: Lib.join (l.map (·.data.toList)) [47] := by
  rw [joinB, if_neg h.bix]
theorem Good.take {l : List ByteArray} (h : Good l) (k : Nat) : Good (l.take k) := ⟨by rw [List.length_take]; have := h.1; omega, fun s hs => h.2 s (List.mem_of_mem_take hs)⟩
theorem not_good {l : List ByteArray} (h : ¬ Good l) : joinB l = ⟨#[]⟩ := by
  rw [joinB]
  split
  · rfl
  · rename_i h'; exact absurd (good_of h') h
theorem good_ne {l : List ByteArray} (h : Good l) : joinB l ≠ ⟨#[]⟩ := fun e => by
  have := h.path
  rw [e] at this
  cases this

/-! ### Cutting at slashes -/
theorem index_47 (x r : List UInt8) (h : (47 : UInt8) ∉ x) : Lib.index (x ++ 47 :: r) [47] = x.length := by
  refine Lib.index_first (i := x.length) (by simp) ?_ fun j hj => ?_
  · unfold Lib.occAt
    rw [List.drop_left]
    simp [List.isPrefixOf]
  · cases ho : Lib.occAt (x ++ 47 :: r) [47] j with
    | false => rfl
    | true =>
      have := Lib.occAt_head rfl ho
      rw [List.getElem?_append_left hj] at this
      exact absurd (List.mem_of_getElem? this) h
theorem index_47_none (x : List UInt8) (h : (47 : UInt8) ∉ x) : Lib.index x [47] = -1 := by
  refine Lib.index_none fun j hj => ?_
  cases ho : Lib.occAt x [47] j with
  | false => rfl
  | true => exact absurd (List.mem_of_getElem? (Lib.occAt_head rfl ho)) h
theorem splitK_join (x : List UInt8) (r : List (List UInt8)) : ∀ k, r.length ≤ k → (47 : UInt8) ∉ x → (∀ y ∈ r, (47 : UInt8) ∉ y) → Lib.splitK [47] 0 k (Lib.join (x :: r) [47]) = x :: r := by
  induction r generalizing x with
  | nil =>
    intro k _ hx _
    rw [Lib.join_one]
    cases k with
    | zero => rfl
    | succ k => rw [Lib.splitK, if_pos (by rw [index_47_none x hx]; rfl)]
  | cons y r ih =>
    intro k hk hx hr
    cases k with
    | zero => simp at hk
    | succ k =>
      have e : Lib.join (x :: y :: r) [47] = x ++ 47 :: Lib.join (y :: r) [47] := by
        rw [Lib.join_cons, Lib.join_cons]
        simp [Lib.joinTail]
      have hi := index_47 x (Lib.join (y :: r) [47]) hx
      rw [e, Lib.splitK, hi, if_neg (by simp)]
      have := ih y k (by simpa using hk) (hr y List.mem_cons_self) fun z hz => hr z (List.mem_cons_of_mem _ hz)
      have ed : (x ++ 47 :: Lib.join (y :: r) [47]).drop (((x.length : Int)).toNat + [(47 : UInt8)].length) = Lib.join (y :: r) [47] := by
        simp
      rw [ed, this]
      simp
theorem map_data {l m : List ByteArray} (h : l.map (·.data.toList) = m.map (·.data.toList)) : l = m := by
  induction l generalizing m with
  | nil => cases m with
    | nil => rfl
    | cons y s => simp at h
  | cons x r ih => cases m with
    | nil => simp at h
    | cons y s =>
      simp only [List.map_cons, List.cons.injEq] at h
      rw [ih h.2]
      congr 1
      ext1
      exact Array.toList_inj.1 h.1
theorem joinLen (x : List UInt8) (r : List (List UInt8)) : r.length ≤ (Lib.join (x :: r) [47]).length := by
  rw [Lib.join_length]; simp
/-- The pieces of a good path are its names. -/
theorem splitB_good {l : List ByteArray} (h : Good l) (h0 : l ≠ []) (rest : ByteArray) (hr : rest.data.toList = Lib.join (l.map (·.data.toList)) [47]) :
    Lib.splitB ⟨#[47]⟩ 0 (min 7 (rest.size + 1) - 1) rest = l := by
  apply map_data
  rw [Lib.splitB_data]
  cases l with
  | nil => exact absurd rfl h0
  | cons x r =>
    rw [hr]
    simp only [List.map_cons]
    have h1 := h.1
    have hl := joinLen x.data.toList (r.map (·.data.toList))
    have hs : rest.size = (Lib.join (x.data.toList :: r.map (·.data.toList)) [47]).length := by
      rw [← List.map_cons (f := fun s : ByteArray => s.data.toList), ← hr]; simp
    rw [List.length_map] at hl
    simp only [List.length_cons] at h1
    exact splitK_join _ _ _ (by rw [List.length_map]; omega) (name_47 (h.2 x List.mem_cons_self)) fun y hy => by
      obtain ⟨s, hs, rfl⟩ := List.mem_map.1 hy
      exact name_47 (h.2 s (List.mem_cons_of_mem _ hs))

/-! ### The reference's way: byte by byte -/
def addB (out : List ByteArray) (c : UInt8) : List ByteArray := if c = 47 then out ++ [⟨#[]⟩] else match out.getLast? with
  | none => out
  | some s => out.dropLast ++ [⟨(s.data.toList ++ [c]).toArray⟩]
def spl (l : List UInt8) (out : List ByteArray) : List ByteArray := l.foldl addB out
theorem spl_name (x : List UInt8) (hx : (47 : UInt8) ∉ x) (out : List ByteArray) (s : ByteArray) : spl x (out ++ [s]) = out ++ [⟨(s.data.toList ++ x).toArray⟩] := by
  induction x generalizing s with
  | nil =>
    simp only [spl, List.foldl_nil, List.append_nil]
  | cons c t ih =>
    have hc : c ≠ 47 := fun e => hx (by rw [e]; exact List.mem_cons_self)
    have ht : (47 : UInt8) ∉ t := fun h => hx (List.mem_cons_of_mem _ h)
    have e : addB (out ++ [s]) c = out ++ [⟨(s.data.toList ++ [c]).toArray⟩] := by
      rw [addB, if_neg hc]
      simp
    rw [spl, List.foldl_cons, e]
    have := ih ht ⟨(s.data.toList ++ [c]).toArray⟩
    rw [spl] at this
    rw [this]
    simp
theorem spl_jn (l : List ByteArray) (h : ∀ s ∈ l, (47 : UInt8) ∉ s.data.toList) : ∀ out, spl (jn l) out = out ++ l := by
  induction l with
  | nil => intro out; simp [jn, spl]
  | cons s r ih =>
    intro out
    have e : jn (s :: r) = 47 :: s.data.toList ++ jn r := by simp [jn]
    rw [e, spl, List.foldl_append, List.foldl_cons]
    have e2 : addB out 47 = out ++ [⟨#[]⟩] := by rw [addB, if_pos rfl]
    rw [e2]
    have h1 := spl_name s.data.toList (h s List.mem_cons_self) out ⟨#[]⟩
    rw [spl] at h1
    rw [h1]
    have h2 := ih (fun x hx => h x (List.mem_cons_of_mem _ hx)) (out ++ [⟨(([] : List UInt8) ++ s.data.toList).toArray⟩])
    rw [spl] at h2
    simp only [List.nil_append] at h2 ⊢
    rw [h2]
    simp
theorem Good.jn {l : List ByteArray} (h : Good l) (h0 : l ≠ []) : (joinB l).data.toList = Go.Proofs.YtbnjjpgacemicaaGreatDoor.jn l := by
  cases l with
  | nil => exact absurd rfl h0
  | cons s r => rw [h.path, jn_join]
theorem Good.spl {l : List ByteArray} (h : Good l) (h0 : l ≠ []) : spl (joinB l).data.toList [] = l := by
  rw [h.jn h0, spl_jn l fun s hs => name_47 (h.2 s hs)]
  rfl
theorem jn_nil_path {l : List ByteArray} (h : Good l) : joinB l = ⟨#[47]⟩ ↔ l = [] := by
  constructor
  · intro e
    cases l with
    | nil => rfl
    | cons s r =>
      have := h.path
      rw [e] at this
      simp only [List.map_cons, Lib.join_cons] at this
      have h1 := (name_len (h.2 s List.mem_cons_self)).1
      cases hs : s.data.toList with
      | nil => rw [hs] at h1; simp at h1
      | cons a t => rw [hs] at this; simp at this
  · rintro rfl
    have := h.path
    simp only [List.map_nil, Lib.join_nil] at this
    ext1
    exact Array.toList_inj.1 this

/-- The names of a path. -/
noncomputable def partsOf (s : ByteArray) : Option (List ByteArray) := @dite _ (∃ l, Good l ∧ joinB l = s) (Classical.propDecidable _) (fun h => some h.choose) (fun _ => none)
theorem good_inj {l m : List ByteArray} (h : Good l) (k : Good m) (e : joinB l = joinB m) : l = m := by
  by_cases h0 : l = []
  · subst h0
    rw [(jn_nil_path h).2 rfl] at e
    exact ((jn_nil_path k).1 e.symm).symm
  · by_cases h1 : m = []
    · subst h1
      rw [(jn_nil_path k).2 rfl] at e
      exact (jn_nil_path h).1 e
    · rw [← h.spl h0, ← k.spl h1, e]
theorem partsOf_some {l : List ByteArray} (h : Good l) : partsOf (joinB l) = some l := by
  have hx : ∃ m, Good m ∧ joinB m = joinB l := ⟨l, h, rfl⟩
  unfold partsOf
  rw [dif_pos hx]
  exact congrArg some (good_inj hx.choose_spec.1 h hx.choose_spec.2)
theorem partsOf_eq {s : ByteArray} {l : List ByteArray} (h : Good l) (e : joinB l = s) : partsOf s = some l := by rw [← e, partsOf_some h]
theorem partsOf_iff {s : ByteArray} {l : List ByteArray} : partsOf s = some l ↔ Good l ∧ joinB l = s := by
  constructor
  · intro h
    unfold partsOf at h
    split at h
    · rename_i hx
      cases h
      exact hx.choose_spec
    · cases h
  · rintro ⟨h, e⟩; exact partsOf_eq h e
theorem partsOf_none {s : ByteArray} (h : ∀ l, Good l → joinB l ≠ s) : partsOf s = none := by
  unfold partsOf
  rw [dif_neg]
  rintro ⟨l, h1, h2⟩
  exact h l h1 h2
/-- What the program asks: is the path of the pieces the path? -/
theorem partsOf_try {s : ByteArray} (c : List ByteArray) (hne : s ≠ ⟨#[]⟩) (hc : ∀ l, Good l → joinB l = s → c = l) : partsOf s = if joinB c = s then some c else none := by
  split
  · rename_i e
    refine partsOf_eq ?_ e
    exact Classical.byContradiction fun hg => hne (by rw [← e, not_good hg])
  · rename_i e
    exact partsOf_none fun l h1 h2 => e (by rw [hc l h1 h2]; exact h2)
theorem partsOf_empty : partsOf ⟨#[]⟩ = none := partsOf_none fun _ h e => good_ne h e
end Go.Proofs.YtbnjjpgacemicaaGreatDoor
