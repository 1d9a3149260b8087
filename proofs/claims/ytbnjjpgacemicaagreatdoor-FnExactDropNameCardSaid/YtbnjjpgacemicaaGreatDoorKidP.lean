/-
  Names in order, without the program: where a name stands, the node that has it; finding a node.
  Conditions: none.
-/
import Derived.Test.YtbnjjpgacemicaaGreatDoorTreeP
import Derived.Test.YtbnjjpgacemicaaGreatDoorPathP
import Derived.Test.YtbnjjpgacemicaaGreatDoorMayP
namespace Go.Proofs.YtbnjjpgacemicaaGreatDoor
open Go.RowKit Vc
set_option linter.unusedVariables false

theorem bl_irrefl (a : List UInt8) : Op.bytesLess a a = false := by
  induction a with
  | nil => rfl
  | cons x r ih =>
    have : ¬ x < x := by rw [UInt8.lt_iff_toNat_lt]; omega
    simp [Op.bytesLess, ih, this]
theorem bl_trans (a : List UInt8) : ∀ b c, Op.bytesLess a b = true → Op.bytesLess b c = true → Op.bytesLess a c = true := by
  induction a with
  | nil =>
    intro b c h1 h2
    cases c with
    | nil => cases b <;> simp [Op.bytesLess] at h2
    | cons z u => simp [Op.bytesLess]
  | cons x r ih =>
    intro b c h1 h2
    cases b with
    | nil => simp [Op.bytesLess] at h1
    | cons y s =>
      cases c with
      | nil => simp [Op.bytesLess] at h2
      | cons z u =>
        simp only [Op.bytesLess, Bool.or_eq_true, decide_eq_true_eq, Bool.and_eq_true, beq_iff_eq] at h1 h2 ⊢
        rcases h1 with h1 | ⟨rfl, h1⟩
        · rcases h2 with h2 | ⟨rfl, h2⟩
          · left; rw [UInt8.lt_iff_toNat_lt] at *; omega
          · exact .inl h1
        · rcases h2 with h2 | ⟨rfl, h2⟩
          · exact .inl h2
          · exact .inr ⟨rfl, ih s u h1 h2⟩
/-- Names that ascend. -/
def Asc (l : List ByteArray) : Prop := ∀ (i : Nat) (s t : ByteArray), l[i]? = some s → l[i + 1]? = some t → Op.bytesLess s.toList t.toList = true
theorem Asc.lt {l : List ByteArray} (h : Asc l) : ∀ (d i : Nat) (s t : ByteArray), l[i]? = some s → l[i + d + 1]? = some t → Op.bytesLess s.toList t.toList = true := by
  intro d
  induction d with
  | zero => intro i s t h1 h2; exact h i s t h1 h2
  | succ d ih =>
    intro i s t h1 h2
    have hlt := (List.getElem?_eq_some_iff.1 h2).1
    have hm : l[i + d + 1]? = some l[i + d + 1] := List.getElem?_eq_getElem (by omega)
    exact bl_trans _ _ _ (ih i s _ h1 hm) (h (i + d + 1) _ _ hm h2)
/-- Where a name stands, or would stand. -/
def posN (l : List ByteArray) (x : ByteArray) : Nat := (l.takeWhile fun y => Op.bytesLess y.toList x.toList).length
theorem posN_cons (y : ByteArray) (r : List ByteArray) (x : ByteArray) : posN (y :: r) x = if Op.bytesLess y.toList x.toList then posN r x + 1 else 0 := by
  unfold posN
  rw [List.takeWhile_cons]
  split <;> simp
theorem posN_le (l : List ByteArray) (x : ByteArray) : posN l x ≤ l.length := by
  induction l with
  | nil => exact Nat.le_refl _
  | cons y r ih => rw [posN_cons]; split <;> simp; exact ih
theorem posN_lo {l : List ByteArray} {x : ByteArray} : ∀ {t : Nat} {y : ByteArray}, t < posN l x → l[t]? = some y → Op.bytesLess y.toList x.toList = true := by
  induction l with
  | nil => intro t y h; simp [posN] at h
  | cons a r ih =>
    intro t y h hy
    rw [posN_cons] at h
    split at h
    · cases t with
      | zero => simp at hy; subst hy; assumption
      | succ t => exact ih (Nat.lt_of_succ_lt_succ h) (by simpa using hy)
    · omega
theorem posN_at {l : List ByteArray} {x y : ByteArray} (hy : l[posN l x]? = some y) : Op.bytesLess y.toList x.toList = false := by
  induction l with
  | nil => simp at hy
  | cons a r ih =>
    rw [posN_cons] at hy
    split at hy
    · rename_i h; exact ih (by simpa using hy)
    · rename_i h; simp at hy; subst hy; simpa using h
theorem posN_hi {l : List ByteArray} (h : Asc l) {x : ByteArray} {t : Nat} {y : ByteArray} (ht : posN l x ≤ t) (hy : l[t]? = some y) : Op.bytesLess y.toList x.toList = false := by
  by_cases e : t = posN l x
  · subst e; exact posN_at hy
  · have hlt := (List.getElem?_eq_some_iff.1 hy).1
    have hk : l[posN l x]? = some l[posN l x] := List.getElem?_eq_getElem (by omega)
    have h1 := posN_at hk
    have h2 := h.lt (t - posN l x - 1) (posN l x) _ _ hk (by rw [show posN l x + (t - posN l x - 1) + 1 = t by omega]; exact hy)
    cases h3 : Op.bytesLess y.toList x.toList with
    | false => rfl
    | true => rw [bl_trans _ _ _ h2 h3] at h1; cases h1
theorem posN_eq {l : List ByteArray} (h : Asc l) {x : ByteArray} {t : Nat} (hy : l[t]? = some x) : t = posN l x := by
  rcases Nat.lt_trichotomy t (posN l x) with h1 | h1 | h1
  · have := posN_lo h1 hy
    rw [bl_irrefl] at this; cases this
  · exact h1
  · have hlt := (List.getElem?_eq_some_iff.1 hy).1
    have hk : l[posN l x]? = some l[posN l x] := List.getElem?_eq_getElem (by omega)
    have h2 := h.lt (t - posN l x - 1) (posN l x) _ _ hk (by rw [show posN l x + (t - posN l x - 1) + 1 = t by omega]; exact hy)
    rw [posN_at hk] at h2; cases h2

/-- The node with a name. -/
def kidB : List ByteArray → List Int → ByteArray → Int
  | x :: xs, k :: ks, s => if x = s then k else kidB xs ks s
  | _, _, _ => -1
def Nd.kid (n : Nd) (s : ByteArray) : Int := kidB n.names n.kids s
theorem kidB_none {l : List ByteArray} {s : ByteArray} : ∀ {ks : List Int}, (∀ t : Nat, l[t]? ≠ some s) → kidB l ks s = -1 := by
  induction l with
  | nil => intro ks _; unfold kidB; rfl
  | cons x r ih =>
    intro ks h
    cases ks with
    | nil => rfl
    | cons k ks =>
      rw [kidB, if_neg fun e => h 0 (by simp [e])]
      exact ih fun t e => h (t + 1) (by simpa using e)
theorem kidB_some {l : List ByteArray} {s : ByteArray} : ∀ {ks : List Int} {t : Nat} {k : Int}, l[t]? = some s → ks[t]? = some k → (∀ j : Nat, j < t → l[j]? ≠ some s) → kidB l ks s = k := by
  induction l with
  | nil => intro ks t k h; simp at h
  | cons x r ih =>
    intro ks t k h hk hn
    cases ks with
    | nil => simp at hk
    | cons y ks =>
      cases t with
      | zero =>
        simp at h hk
        rw [kidB, if_pos h, hk]
      | succ t =>
        rw [kidB, if_neg fun e => hn 0 (by omega) (by simp [e])]
        exact ih (by simpa using h) (by simpa using hk) fun j hj e => hn (j + 1) (by omega) (by simpa using e)
theorem kidB_drop {l : List ByteArray} {ks : List Int} {s x : ByteArray} {k : Nat} {y : Int} (hx : l[k]? = some x) (hy : ks[k]? = some y) : kidB (l.drop k) (ks.drop k) s = if x = s then y else kidB (l.drop (k + 1)) (ks.drop (k + 1)) s := by
  obtain ⟨h1, rfl⟩ := List.getElem?_eq_some_iff.1 hx
  obtain ⟨h2, rfl⟩ := List.getElem?_eq_some_iff.1 hy
  rw [List.drop_eq_getElem_cons h1, List.drop_eq_getElem_cons h2, kidB]
theorem kid_at {n : Nd} (h : Asc n.names) {s : ByteArray} (hp : n.names[posN n.names s]? = some s) {k : Int} (hk : n.kids[posN n.names s]? = some k) : n.kid s = k :=
  kidB_some hp hk fun j hj e => by
    have := posN_lo hj e
    rw [bl_irrefl] at this; cases this
theorem kid_no {n : Nd} (h : Asc n.names) {s : ByteArray} (hp : n.names[posN n.names s]? ≠ some s) : n.kid s = -1 :=
  kidB_none fun t e => hp (by rw [← posN_eq h e]; exact e)
theorem kid_mem (n : Nd) (s : ByteArray) : n.kid s = -1 ∨ n.kid s ∈ n.kids := by
  unfold Nd.kid
  generalize n.names = l
  generalize n.kids = ks
  induction l generalizing ks with
  | nil => left; unfold kidB; rfl
  | cons x r ih =>
    cases ks with
    | nil => left; rfl
    | cons k ks =>
      rw [kidB]
      split
      · exact .inr List.mem_cons_self
      · rcases ih ks with h | h
        · exact .inl h
        · exact .inr (List.mem_cons_of_mem _ h)
theorem kid_file {n : Nd} (h : n.names.length = 0) (s : ByteArray) : n.kid s = -1 := by
  unfold Nd.kid
  rw [List.eq_nil_of_length_eq_zero h]
  unfold kidB; rfl

/-- May a credential do something with a node? -/
def mayN (c : Cr) (n : Nd) (want : Int) : Bool := mayB c n.owner n.group n.mode want
theorem mayN_in {c : Cr} {n : Nd} {want : Int} (hc : c.ok = true) (hn : n.Ok) (hw : inR want 0 7 = true) : mayF c n.owner n.group n.mode want = mayN c n want :=
  may_in (by simp [hc, hn.own, hn.grp, hn.mod]) hw

def findGo (ts : List Nd) (c : Cr) : Int → List ByteArray → Int × Int
  | at_, [] => (at_, 0)
  | at_, s :: r => match ts[at_.toNat]? with
    | none => (-1, 1)
    | some n => if n.folder = false then (-1, 4) else if mayN c n 1 = false then (-1, 3) else if n.kid s < 0 then (-1, 2) else findGo ts c (n.kid s) r
noncomputable def findF (ts : List Nd) (c : Cr) (s : ByteArray) : Int × Int := match partsOf s with
  | none => (-1, 1)
  | some l => if treeB ts && c.ok then findGo ts c 0 l else (-1, 1)
theorem kid_in {ts : List Nd} (h : TreeOk ts) {i : Nat} {n : Nd} (hi : ts[i]? = some n) {s : ByteArray} (hk : ¬ n.kid s < 0) : ∃ k : Nat, n.kid s = k ∧ k < ts.length := by
  have h1 := h.lo
  rcases kid_mem n s with e | e
  · omega
  · have := h.kids i n hi _ e
    exact ⟨(n.kid s).toNat, by omega, by omega⟩
theorem findGo_at {ts : List Nd} (h : TreeOk ts) {c : Cr} (l : List ByteArray) : ∀ k : Nat, k < ts.length → ((findGo ts c k l).2 = 0 → ∃ j : Nat, (findGo ts c k l).1 = j ∧ j < ts.length) ∧ ((findGo ts c k l).2 ≠ 0 → (findGo ts c k l).1 = -1) ∧ 0 ≤ (findGo ts c k l).2 ∧ (findGo ts c k l).2 ≤ 4 := by
  induction l with
  | nil => intro k hk; exact ⟨fun _ => ⟨k, rfl, hk⟩, fun h => absurd rfl h, by simp [findGo]⟩
  | cons s r ih =>
    intro k hk
    have hu : ts[((k : Int)).toNat]? = some ts[k] := by rw [Int.toNat_natCast]; exact List.getElem?_eq_getElem hk
    rw [findGo, hu]
    simp only
    split
    · simp
    · split
      · simp
      · split
        · simp
        · rename_i hk'
          obtain ⟨j, hj, hjl⟩ := kid_in h (by rw [Int.toNat_natCast] at hu; exact hu) hk'
          rw [hj]
          exact ih j hjl
theorem find_at {ts : List Nd} {c : Cr} {s : ByteArray} (h : (findF ts c s).2 = 0) : TreeOk ts ∧ c.ok = true ∧ ∃ k : Nat, (findF ts c s).1 = k ∧ k < ts.length := by
  unfold findF at h ⊢
  split at h
  · cases h
  · split at h
    · rename_i hb
      simp only [Bool.and_eq_true] at hb
      have ht := treeB_iff.1 hb.1
      have := (findGo_at ht (c := c) _ 0 ht.lo).1 h
      refine ⟨ht, hb.2, ?_⟩
      rw [if_pos (by simp [hb])]
      exact this
    · cases h
theorem find_no {ts : List Nd} {c : Cr} {s : ByteArray} (h : (findF ts c s).2 ≠ 0) : (findF ts c s).1 = -1 := by
  unfold findF at h ⊢
  split
  · rfl
  · split
    · rename_i hb
      simp only [Bool.and_eq_true] at hb
      have ht := treeB_iff.1 hb.1
      rename_i hp
      rw [hp] at h
      simp only at h
      rw [if_pos (by simp [hb])] at h
      exact (findGo_at ht (c := c) _ 0 ht.lo).2.1 h
    · rfl
theorem find_bd (ts : List Nd) (c : Cr) (s : ByteArray) : 0 ≤ (findF ts c s).2 ∧ (findF ts c s).2 ≤ 4 := by
  unfold findF
  split
  · simp
  · split
    · rename_i hb
      simp only [Bool.and_eq_true] at hb
      have ht := treeB_iff.1 hb.1
      exact (findGo_at ht (c := c) _ 0 ht.lo).2.2
    · simp
end Go.Proofs.YtbnjjpgacemicaaGreatDoor
