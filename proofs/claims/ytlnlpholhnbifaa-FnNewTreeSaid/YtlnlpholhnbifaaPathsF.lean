/-
  All paths of a tree, in plain terms; how many there are at most.
  Conditions: none.
-/
import Derived.Test.YtlnlpholhnbifaaTreeP
import Derived.Test.YtlnlpholhnbifaaDropP
import Derived.Test.YtlnlpholhnbifaaJoinP
namespace Go.Proofs.Ytlnlpholhnbifaa
set_option linter.unusedVariables false

def pathsF (ts : List Nd) : Nat → Nat → List ByteArray → List ByteArray
  | 0, _, _ => []
  | f + 1, i, ps => joinB ps :: match ts[i]? with
    | none => []
    | some n => (n.names.zip n.kids).flatMap fun x => pathsF ts f x.2.toNat (ps ++ [x.1])
/-- What the first k names of a node give. -/
def belowF (ts : List Nd) (f : Nat) (n : Nd) (ps : List ByteArray) (k : Nat) : List ByteArray := ((n.names.zip n.kids).take k).flatMap fun x => pathsF ts f x.2.toNat (ps ++ [x.1])
theorem belowF_zero (ts : List Nd) (f : Nat) (n : Nd) (ps : List ByteArray) : belowF ts f n ps 0 = [] := by simp [belowF]
theorem belowF_succ {ts : List Nd} {f : Nat} {n : Nd} {ps : List ByteArray} {k : Nat} {s : ByteArray} {q : Int} (h1 : n.names[k]? = some s) (h2 : n.kids[k]? = some q) : belowF ts f n ps (k + 1) = belowF ts f n ps k ++ pathsF ts f q.toNat (ps ++ [s]) := by
  have hz : (n.names.zip n.kids)[k]? = some (s, q) := by rw [List.getElem?_zip_eq_some]; exact ⟨h1, h2⟩
  obtain ⟨hlt, he⟩ := List.getElem?_eq_some_iff.1 hz
  unfold belowF
  rw [List.take_succ_eq_append_getElem hlt, List.flatMap_append, he]
  simp
theorem belowF_all {ts : List Nd} {f i : Nat} {n : Nd} {ps : List ByteArray} (h : ts[i]? = some n) (hl : n.names.length = n.kids.length) : joinB ps :: belowF ts f n ps n.names.length = pathsF ts (f + 1) i ps := by
  rw [pathsF, h]
  simp only [belowF]
  rw [List.take_of_length_le (by rw [List.length_zip]; omega)]
theorem belowF_le {ts : List Nd} {f : Nat} {n : Nd} {ps : List ByteArray} (k : Nat) : (belowF ts f n ps k).length ≤ ((n.names.zip n.kids).flatMap fun x => pathsF ts f x.2.toNat (ps ++ [x.1])).length := by
  have e : n.names.zip n.kids = (n.names.zip n.kids).take k ++ (n.names.zip n.kids).drop k := (List.take_append_drop ..).symm
  have h : ((n.names.zip n.kids).flatMap fun x => pathsF ts f x.2.toNat (ps ++ [x.1])).length = (belowF ts f n ps k).length + (((n.names.zip n.kids).drop k).flatMap fun x => pathsF ts f x.2.toNat (ps ++ [x.1])).length := by
    rw [← List.length_append, belowF, ← List.flatMap_append, ← e]
  omega
theorem pathsF_len {ts : List Nd} {f i : Nat} {n : Nd} {ps : List ByteArray} (h : ts[i]? = some n) (k : Nat) : 1 + (belowF ts f n ps k).length ≤ (pathsF ts (f + 1) i ps).length := by
  have := belowF_le (ts := ts) (f := f) (n := n) (ps := ps) k
  rw [pathsF, h]
  simp only [List.length_cons]
  omega
theorem pathsF_pos {ts : List Nd} {f i : Nat} {ps : List ByteArray} : 1 ≤ (pathsF ts (f + 1) i ps).length := by
  rw [pathsF]; simp

noncomputable def pathsOfF (ts : List Nd) : List ByteArray := if treeB ts = true then pathsF ts 7 0 [] else []

/-! ### How many -/
def lenB (T : Nat) : Nat → Nat
  | 0 => 0
  | 1 => 1
  | f + 2 => 1 + T + 15 * lenB T (f + 1)
theorem lenB_pos (T f : Nat) : 1 ≤ lenB T (f + 1) := by cases f <;> simp [lenB] <;> omega
theorem nodup_len (m : Nat) : ∀ l : List Int, l.Nodup → (∀ x ∈ l, 1 ≤ x ∧ x ≤ (m : Int)) → l.length ≤ m := by
  induction m with
  | zero =>
    intro l _ h
    cases l with
    | nil => simp
    | cons x r => have := h x (List.mem_cons_self ..); omega
  | succ m ih =>
    intro l hn h
    have h1 := ih (l.erase ((m : Int) + 1)) (hn.erase _) (fun x hx => by
      have h2 := (hn.mem_erase_iff).1 hx
      have h3 := h x h2.2
      have := h2.1
      omega)
    have h4 : l.length ≤ (l.erase ((m : Int) + 1)).length + 1 := by
      rw [List.length_erase]; split <;> omega
    omega
theorem flatMap_len {α β : Type} (p : α → Bool) (g : α → List β) (L : Nat) : ∀ l : List α, (∀ x ∈ l, (p x = true → (g x).length ≤ L) ∧ (p x = false → (g x).length ≤ 1)) → (l.flatMap g).length ≤ l.length + (l.filter p).length * L := by
  intro l
  induction l with
  | nil => intro _; simp
  | cons x r ih =>
    intro h
    have h1 := ih fun y hy => h y (List.mem_cons_of_mem _ hy)
    have h2 := h x (List.mem_cons_self ..)
    rw [List.flatMap_cons, List.length_append, List.filter_cons, List.length_cons]
    cases hp : p x
    · have := h2.2 hp
      simp only [Bool.false_eq_true, if_false]
      omega
    · have := h2.1 hp
      simp only [if_true, List.length_cons, Nat.succ_mul]
      omega
def isDir (ts : List Nd) (k : Int) : Bool := match ts[k.toNat]? with
  | some m => m.folder
  | none => false
theorem kid_count_le {ts : List Nd} {i : Nat} {n : Nd} (h : ts[i]? = some n) (q : Int) : n.kids.count q ≤ (allKids ts).count q := by
  have e : ts = ts.take i ++ n :: ts.drop (i + 1) := by
    obtain ⟨h1, rfl⟩ := List.getElem?_eq_some_iff.1 h
    rw [← List.drop_eq_getElem_cons h1, List.take_append_drop]
  have : (allKids ts).count q = ((ts.take i).flatMap Nd.kids).count q + (n.kids.count q + ((ts.drop (i + 1)).flatMap Nd.kids).count q) := by
    unfold allKids
    rw [congrArg (List.flatMap Nd.kids) e, List.flatMap_append, List.flatMap_cons, List.count_append, List.count_append]
  omega
theorem dirs_len {ts : List Nd} (hT : TreeOk ts) {i : Nat} {n : Nd} (h : ts[i]? = some n) : (n.kids.filter (isDir ts)).length ≤ 15 := by
  have hhi := hT.hi
  have hlo := hT.lo
  have hall : ∀ k ∈ allKids ts, 0 ≤ k ∧ k ≤ (ts.length : Int) - 1 := fun k hk => by
    obtain ⟨j, m, hj, hm⟩ := mem_allKids.1 hk
    have := hT.kids j m hj k hm
    omega
  refine nodup_len 15 _ (List.nodup_iff_count.2 fun q => ?_) (fun x hx => ?_)
  · by_cases hq : q ∈ n.kids.filter (isDir ts)
    · obtain ⟨hq1, hq2⟩ := List.mem_filter.1 hq
      have hb := hT.kids i n h q hq1
      unfold isDir at hq2
      split at hq2
      · rename_i m hm
        have h1 := hT.one q.toNat m (by omega) hm hq2
        rw [(links_count hhi hall).2 q.toNat (by omega)] at h1
        have h2 := kid_count_le h q
        have e : ((q.toNat : Nat) : Int) = q := by omega
        rw [e] at h1
        have h3 : (n.kids.filter (isDir ts)).count q ≤ n.kids.count q := (List.filter_sublist ..).count_le _
        omega
      · cases hq2
    · rw [List.count_eq_zero_of_not_mem hq]; omega
  · have := hT.kids i n h x (List.mem_filter.1 hx).1
    omega
theorem pathsF_bound {ts : List Nd} (hT : TreeOk ts) {T : Nat} (hs : ∀ n ∈ ts, n.names.length ≤ T) : ∀ f i ps, (pathsF ts f i ps).length ≤ lenB T f := by
  intro f
  induction f with
  | zero => intro i ps; simp [pathsF, lenB]
  | succ f ih =>
    intro i ps
    rw [pathsF]
    have hp := lenB_pos T f
    cases hn : ts[i]? with
    | none => simp only [List.length_cons, List.length_nil]; omega
    | some n =>
      cases f with
      | zero =>
        simp only [List.length_cons, lenB]
        have : ((n.names.zip n.kids).flatMap fun x => pathsF ts 0 x.2.toNat (ps ++ [x.1])) = [] := by simp [pathsF]
        rw [this]; simp
      | succ f =>
        have hok := hT.nodes i n hn
        have h1 := flatMap_len (fun x : ByteArray × Int => isDir ts x.2) (fun x => pathsF ts (f + 1) x.2.toNat (ps ++ [x.1])) (lenB T (f + 1)) (n.names.zip n.kids) (fun x hx => ⟨fun _ => ih _ _, fun hd => by
          rw [pathsF]
          unfold isDir at hd
          split at hd
          · rename_i m hm
            have hm0 := (hT.nodes _ m hm).file hd
            have : m.names = [] := List.eq_nil_of_length_eq_zero hm0
            rw [hm]
            simp [this]
          · rename_i hm
            rw [hm]; simp⟩)
        have h2 : ((n.names.zip n.kids).filter fun x => isDir ts x.2).length = (n.kids.filter (isDir ts)).length := by
          have e : n.kids = (n.names.zip n.kids).map (·.2) := (List.map_snd_zip (by rw [hok.len]; exact Nat.le_refl _)).symm
          rw [congrArg (List.filter (isDir ts)) e, List.filter_map, List.length_map]
          rfl
        have h3 := dirs_len hT hn
        have h4 : (n.names.zip n.kids).length ≤ T := by
          have := hs n (List.mem_of_getElem? hn)
          rw [List.length_zip]; omega
        simp only [List.length_cons, lenB]
        rw [h2] at h1
        have h5 : (n.kids.filter (isDir ts)).length * lenB T (f + 1) ≤ 15 * lenB T (f + 1) := Nat.mul_le_mul_right _ h3
        omega
theorem pathsOfF_len {ts : List Nd} (hs : ∀ n ∈ ts, n.names.length ≤ 8388608) : (pathsOfF ts).length ≤ 7000000000000 := by
  unfold pathsOfF
  split
  · rename_i h
    have h1 := pathsF_bound (treeB_iff.1 h) hs 7 0 []
    simp only [lenB] at h1
    omega
  · simp
end Go.Proofs.Ytlnlpholhnbifaa
