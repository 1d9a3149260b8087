/-
  More of names: a slash at the end makes no name; the first byte of a name is one.
  Conditions: none.
-/
import Derived.Test.YtbiaamipfhgfeaaNamesP
namespace Go.Proofs.Ytbiaamipfhgfeaa
open Go.RowKit

theorem nameOk_slash (s : ByteArray) : nameOk ((s ++ (⟨#[47]⟩ : ByteArray)).data.toList) = false := by
  have e : (s ++ (⟨#[47]⟩ : ByteArray)).data.toList = s.data.toList ++ [47] := by simp [ByteArray.data_append]
  rw [e]
  simp only [nameOk, preOk_snoc]
  have : chOk s.data.toList.length 47 = false := by simp [chOk, low, dig]
  rw [this, Bool.and_false, Bool.false_and, Bool.false_and]
theorem nameOk_len (s : ByteArray) (h : nameOk s.data.toList = true) : 1 ≤ s.size := by
  simp only [nameOk, Bool.and_eq_true, decide_eq_true_eq, bytes_len] at h; omega
theorem nameOk_first (s : ByteArray) (h : nameOk s.data.toList = true) : nameOk ((s.extract 0 1).data.toList) = true := by
  have hl := nameOk_len s h
  have e : (s.extract 0 1).data.toList = s.data.toList.take 1 := by simp [ByteArray.data_extract]
  rw [e]
  simp only [nameOk, Bool.and_eq_true, decide_eq_true_eq, bytes_len] at h ⊢
  refine ⟨⟨preOk_take 1 h.1.1, ?_⟩, ?_⟩ <;> simp <;> omega

end Go.Proofs.Ytbiaamipfhgfeaa
