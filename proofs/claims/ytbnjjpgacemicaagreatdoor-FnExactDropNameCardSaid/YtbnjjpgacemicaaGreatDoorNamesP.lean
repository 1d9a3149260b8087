/-
  Names, without the program: a text of 1 to 8 bytes, each a small letter or a digit, the first no digit.
  Conditions: none.
-/
import Derived.Test.YtbnjjpgacemicaaGreatDoorPlain
import Derived.Laws.Strings
namespace Go.Proofs.YtbnjjpgacemicaaGreatDoor
open Go.RowKit

def low (c : UInt8) : Bool := 97 ≤ c.toNat && c.toNat ≤ 122
def dig (c : UInt8) : Bool := 48 ≤ c.toNat && c.toNat ≤ 57
/-- May the byte stand at place k? -/
def chOk (k : Nat) (c : UInt8) : Bool := low c || (decide (0 < k) && dig c)
def preOk : List UInt8 → Bool
  | [] => true
  | c :: t => low c && t.all fun x => low x || dig x
def nameOk (l : List UInt8) : Bool := preOk l && decide (1 ≤ l.length) && decide (l.length ≤ 8)

theorem preOk_snoc (l : List UInt8) (c : UInt8) : preOk (l ++ [c]) = (preOk l && chOk l.length c) := by
  cases l with
  | nil => simp [preOk, chOk]
  | cons a t => simp [preOk, chOk, Bool.and_assoc]
theorem preOk_take {l : List UInt8} (k : Nat) (h : preOk l = true) : preOk (l.take k) = true := by
  cases l with
  | nil => simp [preOk]
  | cons a t =>
    cases k with
    | zero => simp [preOk]
    | succ k =>
      simp only [preOk, Bool.and_eq_true, List.all_eq_true, List.take_succ_cons] at h ⊢
      exact ⟨h.1, fun x hx => h.2 x (List.mem_of_mem_take hx)⟩
theorem take_snoc {α : Type} (l : List α) (k : Nat) (h : k < l.length) : l.take (k + 1) = l.take k ++ [l[k]] := by
  rw [List.take_succ_eq_append_getElem h]
theorem bytes_len (s : ByteArray) : s.data.toList.length = s.size := by simp
theorem preOk_step (s : ByteArray) (k : Nat) (h : k < s.size) : preOk (s.data.toList.take (k + 1)) = (preOk (s.data.toList.take k) && chOk k s[k]) := by
  rw [take_snoc _ k (by simpa using h), preOk_snoc]
  congr 2
  rw [List.length_take]; simp; omega
theorem nameOk_bad (s : ByteArray) (k : Nat) (h : k < s.size) (hc : chOk k s[k] = false) : nameOk s.data.toList = false := by
  cases hn : preOk s.data.toList with
  | false => simp [nameOk, hn]
  | true =>
    have h1 := preOk_step s k h
    rw [preOk_take _ hn, preOk_take _ hn, hc] at h1
    simp at h1
theorem nameOk_end (s : ByteArray) (h : preOk (s.data.toList.take s.size) = true) : nameOk s.data.toList = inR s.size 1 8 := by
  rw [List.take_of_length_le (by simp)] at h
  simp only [nameOk, h, Bool.true_and, inR, bytes_len]
  rw [Bool.eq_iff_iff]; simp; omega

/-- The name of a fault. -/
def faultT (n : Int) : ByteArray :=
  if n = 0 then ⟨#[110, 111, 110, 101]⟩ else if n = 1 then ⟨#[112, 97, 116, 104]⟩ else if n = 2 then ⟨#[109, 105, 115, 115, 105, 110, 103]⟩
  else if n = 3 then ⟨#[97, 99, 99, 101, 115, 115]⟩ else if n = 4 then ⟨#[107, 105, 110, 100]⟩ else if n = 5 then ⟨#[116, 104, 101, 114, 101]⟩
  else if n = 6 then ⟨#[102, 117, 108, 108]⟩ else if n = 7 then ⟨#[98, 117, 115, 121]⟩ else ⟨#[]⟩
theorem faultT_out {n : Int} (h : inR n 0 7 = false) : faultT n = ⟨#[]⟩ := by
  rw [inR_not] at h
  unfold faultT
  repeat rw [if_neg (by omega)]

theorem faultT_ne {n x : Int} (h0 : 0 ≤ n) (h1 : n ≤ 7) (h2 : -1 ≤ x) (h3 : x ≤ 9) (h : n ≠ x) : ((faultT n).toList == (faultT x).toList) = false := by
  rw [ByteArray.toList_eq, ByteArray.toList_eq]
  have hn : n = 0 ∨ n = 1 ∨ n = 2 ∨ n = 3 ∨ n = 4 ∨ n = 5 ∨ n = 6 ∨ n = 7 := by omega
  have hx : x = -1 ∨ x = 0 ∨ x = 1 ∨ x = 2 ∨ x = 3 ∨ x = 4 ∨ x = 5 ∨ x = 6 ∨ x = 7 ∨ x = 8 ∨ x = 9 := by omega
  rcases hn with rfl | rfl | rfl | rfl | rfl | rfl | rfl | rfl
  all_goals
    rcases hx with rfl | rfl | rfl | rfl | rfl | rfl | rfl | rfl | rfl | rfl | rfl
    all_goals first | exact absurd rfl h | decide
theorem faultT_some {x : Int} (h0 : 0 ≤ x) (h1 : x ≤ 7) : (faultT x).toList.isEmpty = false := by
  rw [ByteArray.toList_eq]
  have hn : x = 0 ∨ x = 1 ∨ x = 2 ∨ x = 3 ∨ x = 4 ∨ x = 5 ∨ x = 6 ∨ x = 7 := by omega
  rcases hn with rfl | rfl | rfl | rfl | rfl | rfl | rfl | rfl <;> decide
theorem faultT_none {x : Int} (h : x < 0 ∨ 7 < x) : (faultT x).toList = [] := by
  rw [ByteArray.toList_eq, faultT_out (inR_not.2 h)]

end Go.Proofs.YtbnjjpgacemicaaGreatDoor
