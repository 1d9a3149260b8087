/-
  Nodes and trees that are right, in plain terms.
  Conditions: none.
-/
import Derived.Test.YtbnjjpgacemicaaGreatDoorTree
import Derived.Test.YtbnjjpgacemicaaGreatDoorNames
namespace Go.Proofs.YtbnjjpgacemicaaGreatDoor
open Go.RowKit Vc

structure Nd.Ok (n : Nd) : Prop where
  own : inR n.owner 0 99 = true
  grp : inR n.group 0 7 = true
  mod : inR n.mode 0 1023 = true
  len : n.names.length = n.kids.length
  file : n.folder = false → n.names.length = 0
  dir : n.folder = true → n.text.size = 0
  txt : n.text.size ≤ 40
  val : ∀ (i : Nat) (s : ByteArray), n.names[i]? = some s → nameOk s.data.toList = true
  asc : ∀ (i : Nat) (s t : ByteArray), n.names[i]? = some s → n.names[i + 1]? = some t → Op.bytesLess s.toList t.toList = true
noncomputable def Nd.okB (n : Nd) : Bool := @decide n.Ok (Classical.propDecidable _)
theorem Nd.okB_yes {n : Nd} (h : n.Ok) : n.okB = true := by unfold Nd.okB; exact @decide_eq_true _ (Classical.propDecidable _) h
theorem Nd.okB_no {n : Nd} (h : ¬ n.Ok) : n.okB = false := by unfold Nd.okB; exact @decide_eq_false _ (Classical.propDecidable _) h
theorem Nd.okB_iff {n : Nd} : n.okB = true ↔ n.Ok := by unfold Nd.okB; exact @decide_eq_true_iff _ (Classical.propDecidable _)

structure TreeOk (ts : List Nd) : Prop where
  lo : 1 ≤ ts.length
  hi : ts.length ≤ 16
  root : ∀ n : Nd, ts[0]? = some n → n.folder = true
  nodes : ∀ (i : Nat) (n : Nd), ts[i]? = some n → n.Ok
  kids : ∀ (i : Nat) (n : Nd), ts[i]? = some n → ∀ k ∈ n.kids, 1 ≤ k ∧ k ≤ ts.length - 1
  down : ∀ (i : Nat) (n : Nd), ts[i]? = some n → ∀ k ∈ n.kids, ∀ m, ts[k.toNat]? = some m → m.folder = true → (i : Int) < k
  some_ : ∀ (i : Nat) (n : Nd), 1 ≤ i → ts[i]? = some n → 1 ≤ (linksOf ts).getD i 0
  one : ∀ (i : Nat) (n : Nd), 1 ≤ i → ts[i]? = some n → n.folder = true → (linksOf ts).getD i 0 ≤ 1
noncomputable def treeB (ts : List Nd) : Bool := @decide (TreeOk ts) (Classical.propDecidable _)
theorem treeB_yes {ts : List Nd} (h : TreeOk ts) : treeB ts = true := by unfold treeB; exact @decide_eq_true _ (Classical.propDecidable _) h
theorem treeB_no {ts : List Nd} (h : ¬ TreeOk ts) : treeB ts = false := by unfold treeB; exact @decide_eq_false _ (Classical.propDecidable _) h
theorem treeB_iff {ts : List Nd} : treeB ts = true ↔ TreeOk ts := by unfold treeB; exact @decide_eq_true_iff _ (Classical.propDecidable _)

/-! ### Orders of texts -/
theorem bl_asymm (a : List UInt8) : ∀ b, Op.bytesLess a b = true → Op.bytesLess b a = false ∧ (b == a) = false := by
  induction a with
  | nil => intro b h; cases b with
    | nil => simp [Op.bytesLess] at h
    | cons y s => simp [Op.bytesLess]
  | cons x r ih =>
    intro b h
    cases b with
    | nil => simp [Op.bytesLess] at h
    | cons y s =>
      simp only [Op.bytesLess, Bool.or_eq_true, decide_eq_true_eq, Bool.and_eq_true, beq_iff_eq] at h
      rcases h with h | ⟨rfl, h⟩
      · have h1 : ¬ y < x := by rw [UInt8.lt_iff_toNat_lt] at h ⊢; omega
        have h2 : y ≠ x := fun e => by subst e; rw [UInt8.lt_iff_toNat_lt] at h; omega
        simp [Op.bytesLess, h1, h2]
      · obtain ⟨h1, h2⟩ := ih s h
        have h3 : ¬ x < x := by rw [UInt8.lt_iff_toNat_lt]; omega
        simp only [beq_eq_false_iff_ne, ne_eq] at h2
        simp [Op.bytesLess, h1, h2, h3]
theorem bl_total (a : List UInt8) : ∀ b, Op.bytesLess a b = false → (Op.bytesLess b a || b == a) = true := by
  induction a with
  | nil => intro b h; cases b with
    | nil => simp
    | cons y s => simp [Op.bytesLess] at h
  | cons x r ih =>
    intro b h
    cases b with
    | nil => simp [Op.bytesLess]
    | cons y s =>
      simp only [Op.bytesLess, Bool.or_eq_false_iff, decide_eq_false_iff_not] at h
      obtain ⟨h1, h2⟩ := h
      by_cases hxy : y < x
      · simp [Op.bytesLess, hxy]
      · have e : x = y := by
          rw [UInt8.lt_iff_toNat_lt] at h1 hxy
          exact UInt8.toNat_inj.1 (by omega)
        subst e
        simp at h2
        have := ih s h2
        simp only [Bool.or_eq_true, beq_iff_eq] at this
        rcases this with h | h
        · simp [Op.bytesLess, h]
        · simp [Op.bytesLess, h]

/-! ### Links -/
theorem linksGo_some {n : Nat} (l : List Int) : ∀ {out r : List Int}, linksGo n l out = some r → ∀ k ∈ l, 0 ≤ k ∧ k ≤ n - 1 := by
  induction l with
  | nil => intro out r _ k hk; cases hk
  | cons x l ih =>
    intro out r h k hk
    unfold linksGo at h
    split at h
    · rename_i hx
      rcases List.mem_cons.1 hk with rfl | hk
      · exact inR_iff.1 hx
      · exact ih h k hk
    · cases h
theorem linksGo_none {n : Nat} (l : List Int) : ∀ {out : List Int}, linksGo n l out = none → ∃ k ∈ l, ¬ (0 ≤ k ∧ k ≤ n - 1) := by
  induction l with
  | nil => intro out h; cases h
  | cons x l ih =>
    intro out h
    unfold linksGo at h
    split at h
    · obtain ⟨k, hk, hx⟩ := ih h
      exact ⟨k, List.mem_cons_of_mem _ hk, hx⟩
    · rename_i hx
      exact ⟨x, List.mem_cons_self, fun h => hx (inR_iff.2 h)⟩
theorem bump_getD (out : List Int) (k j : Nat) (hj : j < out.length) : (bump out k).getD j 0 = out.getD j 0 + if j = k then 1 else 0 := by
  unfold bump
  simp only [List.getD_eq_getElem?_getD, List.getElem?_set]
  by_cases h : k = j
  · subst h
    rw [if_pos rfl, if_pos hj, if_pos rfl]; rfl
  · rw [if_neg h, if_neg (fun e => h e.symm)]; omega
theorem linksGo_getD {n : Nat} (l : List Int) : ∀ {out r : List Int}, linksGo n l out = some r → ∀ j, j < out.length → r.getD j 0 = out.getD j 0 + (l.filter fun k => k.toNat == j).length := by
  induction l with
  | nil => intro out r h j _; cases h; simp
  | cons x l ih =>
    intro out r h j hj
    unfold linksGo at h
    split at h
    · rw [ih h j (by rw [bump_length]; exact hj), bump_getD _ _ _ hj, List.filter_cons]
      by_cases hx : x.toNat = j
      · rw [if_pos hx.symm, if_pos (by simpa using hx)]; simp; omega
      · rw [if_neg (fun e => hx e.symm), if_neg (by simpa using hx)]; omega
    · cases h
theorem mem_allKids {ts : List Nd} {k : Int} : k ∈ allKids ts ↔ ∃ (i : Nat) (n : Nd), ts[i]? = some n ∧ k ∈ n.kids := by
  unfold allKids
  rw [List.mem_flatMap]
  constructor
  · rintro ⟨n, hn, hk⟩
    obtain ⟨i, hi, rfl⟩ := List.getElem_of_mem hn
    exact ⟨i, _, List.getElem?_eq_getElem hi, hk⟩
  · rintro ⟨i, n, hi, hk⟩
    exact ⟨n, List.mem_of_getElem? hi, hk⟩
/-- Kids that are there. -/
theorem links_full {ts : List Nd} (h : ts.length ≤ (linksOf ts).length) (h1 : 1 ≤ ts.length) : ts.length ≤ 16 ∧ (linksOf ts).length = ts.length ∧ (∀ (i : Nat) (n : Nd), ts[i]? = some n → ∀ k ∈ n.kids, 0 ≤ k ∧ k ≤ ts.length - 1) ∧
    ∀ j, j < ts.length → (linksOf ts).getD j 0 = ((allKids ts).filter fun k => k.toNat == j).length := by
  by_cases h16 : 16 < ts.length
  · rw [linksOf, if_pos h16] at h; simp only [List.length_nil] at h; omega
  rw [linksOf, if_neg h16] at h ⊢
  cases hl : linksGo ts.length (allKids ts) (List.replicate ts.length 0) with
  | none => rw [hl] at h; simp only [Option.getD_none, List.length_nil] at h; omega
  | some r =>
    have hr := linksGo_length _ hl
    refine ⟨by omega, by simpa using hr, fun i n hi k hk => linksGo_some _ hl k (mem_allKids.2 ⟨i, n, hi, hk⟩), fun j hj => ?_⟩
    have := linksGo_getD _ hl j (by simpa using hj)
    simp only [Option.getD_some]
    rw [this, List.getD_eq_getElem?_getD, List.getElem?_replicate, if_pos hj]
    simp
theorem links_full' {ts : List Nd} (h16 : ts.length ≤ 16) (hk : ∀ (i : Nat) (n : Nd), ts[i]? = some n → ∀ k ∈ n.kids, 0 ≤ k ∧ k ≤ ts.length - 1) : (linksOf ts).length = ts.length := by
  unfold linksOf
  rw [if_neg (by omega)]
  cases hl : linksGo ts.length (allKids ts) (List.replicate ts.length 0) with
  | none =>
    obtain ⟨k, hk', hx⟩ := linksGo_none _ hl
    obtain ⟨i, n, hi, hm⟩ := mem_allKids.1 hk'
    exact (hx (hk i n hi k hm)).elim
  | some r => simpa using linksGo_length _ hl
/-- The node 0 is in none. -/
theorem links_zero {ts : List Nd} (h : ts.length ≤ (linksOf ts).length) (h1 : 1 ≤ ts.length) : (linksOf ts).getD 0 0 ≤ 0 ↔ ∀ (i : Nat) (n : Nd), ts[i]? = some n → ∀ k ∈ n.kids, 1 ≤ k := by
  obtain ⟨_, _, hb, hg⟩ := links_full h h1
  rw [hg 0 (by omega)]
  constructor
  · intro h0 i n hi k hk
    have := hb i n hi k hk
    rcases Int.lt_or_le k 1 with hlt | hle
    · have hm : k ∈ (allKids ts).filter fun k => k.toNat == 0 := List.mem_filter.2 ⟨mem_allKids.2 ⟨i, n, hi, hk⟩, by simp; omega⟩
      have := List.length_pos_of_mem hm
      omega
    · exact hle
  · intro h0
    have : ((allKids ts).filter fun k => k.toNat == 0) = [] := by
      rw [List.filter_eq_nil_iff]
      intro k hk
      obtain ⟨i, n, hi, hm⟩ := mem_allKids.1 hk
      have := h0 i n hi k hm
      simp; omega
    rw [this]; simp
end Go.Proofs.YtbnjjpgacemicaaGreatDoor
