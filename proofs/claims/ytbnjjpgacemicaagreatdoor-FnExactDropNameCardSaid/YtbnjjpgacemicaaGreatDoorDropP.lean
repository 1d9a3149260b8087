/-
  Plain laws of a name that goes: the sums of links; nodes that nobody names.
  Conditions: none.
-/
import Derived.Test.YtbnjjpgacemicaaGreatDoorTreeV
namespace Go.Proofs.YtbnjjpgacemicaaGreatDoor
set_option linter.unusedVariables false

theorem linksGo_count {n : Nat} (l : List Int) : ∀ {out : List Int}, out.length = n → (∀ k ∈ l, 0 ≤ k ∧ k ≤ (n : Int) - 1) → ∃ r, linksGo n l out = some r ∧ r.length = n ∧ ∀ i : Nat, i < n → r.getD i 0 = out.getD i 0 + (l.count (i : Int) : Nat) := by
  induction l with
  | nil => intro out hl _; exact ⟨out, rfl, hl, fun i _ => by simp⟩
  | cons k l ih =>
    intro out hl hk
    have hk0 := hk k (List.mem_cons_self ..)
    obtain ⟨r, h1, h2, h3⟩ := ih (out := bump out k.toNat) (by rw [bump_length]; exact hl) (fun q hq => hk q (List.mem_cons_of_mem _ hq))
    refine ⟨r, ?_, h2, fun i hi => ?_⟩
    · unfold linksGo
      rw [if_pos (inR_iff.2 hk0)]
      exact h1
    · rw [h3 i hi, bump_getD out k.toNat i (by omega), List.count_cons]
      by_cases e : i = k.toNat
      · have e2 : k = (i : Int) := by omega
        rw [if_pos e, e2]; simp; omega
      · have e2 : ¬ (k == (i : Int)) = true := by
          intro h; have := eq_of_beq h; omega
        rw [if_neg e, if_neg e2]; simp
theorem links_count {ts : List Nd} (h16 : ts.length ≤ 16) (hk : ∀ k ∈ allKids ts, 0 ≤ k ∧ k ≤ (ts.length : Int) - 1) : (linksOf ts).length = ts.length ∧ ∀ i : Nat, i < ts.length → (linksOf ts).getD i 0 = ((allKids ts).count (i : Int) : Nat) := by
  obtain ⟨r, h1, h2, h3⟩ := linksGo_count (n := ts.length) (allKids ts) (out := List.replicate ts.length 0) (by simp) hk
  unfold linksOf
  rw [if_neg (by omega), h1]
  refine ⟨h2, fun i hi => ?_⟩
  have := h3 i hi
  simpa [List.getD_eq_getElem?_getD, List.getElem?_replicate, hi] using this
theorem allKids_set {ts : List Nd} (q : Int) : ∀ {k : Nat} {n n' : Nd}, ts[k]? = some n → (allKids (ts.set k n')).count q + n.kids.count q = (allKids ts).count q + n'.kids.count q := by
  induction ts with
  | nil => intro k n n' h; simp at h
  | cons m r ih =>
    intro k n n' h
    cases k with
    | zero =>
      simp at h; subst h
      simp only [List.set_cons_zero, allKids, List.flatMap_cons, List.count_append]
      omega
    | succ k =>
      have := ih (n' := n') (by simpa using h)
      simp only [List.set_cons_succ, allKids, List.flatMap_cons, List.count_append] at this ⊢
      omega
theorem count_erase {l : List Int} {p : Nat} {y : Int} (h : l[p]? = some y) (q : Int) : l.count q = (l.eraseIdx p).count q + if y = q then 1 else 0 := by
  have hlt := (List.getElem?_eq_some_iff.1 h).1
  have hy := (List.getElem?_eq_some_iff.1 h).2
  have e : l = l.take p ++ y :: l.drop (p + 1) := by rw [← hy, ← List.drop_eq_getElem_cons hlt, List.take_append_drop]
  rw [List.eraseIdx_eq_take_drop_succ, List.count_append]
  have e2 : l.count q = (l.take p).count q + (y :: l.drop (p + 1)).count q := by rw [← List.count_append, ← e]
  rw [e2, List.count_cons]
  by_cases h2 : y = q
  · rw [if_pos h2, if_pos (by simp [h2])]; omega
  · rw [if_neg h2, if_neg (by simp [h2])]; omega
end Go.Proofs.YtbnjjpgacemicaaGreatDoor
