/-
  Contracts: ModeText, the reference's and the program's.
  Conditions: none.
-/
import Derived.Test.YtlnlpholhnbifaaDoorModeP
import Derived.Test.YtlnlpholhnbifaaDoorSmall
import Derived.Test.YtlnlpholhnbifaaDoorOwn
import Derived.Laws.AppendOwn
import Derived.Laws.BytesString
import Derived.Laws.OwnMore
namespace Go.Proofs.YtlnlpholhnbifaaDoor
open Go.ChangeShapes Go.WideShapes Go.ChangeAt Go.RowKit
set_option maxHeartbeats 2000000

theorem cat1 (l : List UInt8) (c : UInt8) : (⟨l.toArray⟩ : ByteArray) ++ (⟨#[c]⟩ : ByteArray) = ⟨(l ++ [c]).toArray⟩ := by
  apply ByteArray.ext
  simp [ByteArray.data_append]
theorem mode_step {m : Int} {j : Nat} {l : List UInt8} {c : UInt8} (h : l = modeP m j) (hc : mch m (8 - j) = c) : Value.string ((⟨l.toArray⟩ : ByteArray) ++ (⟨#[c]⟩ : ByteArray)) = Value.string ⟨(modeP m (j + 1)).toArray⟩ := by
  rw [cat1, h, ← hc]; rfl
theorem mode_snoc {m : Int} {j : Nat} {l : List UInt8} {c : UInt8} (h : l = modeP m j) (hc : mch m (8 - j) = c) : l ++ [c] = modeP m (j + 1) := by
  rw [h, ← hc]; rfl
theorem mch_yes {m v : Int} {k : Nat} (hv : (2 : Int) ^ k = v) (h : (m / v % 2 == 1) = true) : mch m k = mletter k := by
  rw [mch, hv, if_pos (by simpa using h)]
theorem mch_no {m v : Int} {k : Nat} (hv : (2 : Int) ^ k = v) (h : (m / v % 2 == 1) = false) : mch m k = 45 := by
  rw [mch, hv, if_neg (by simpa using h)]
theorem mode_end_yes {m : Int} {l : List UInt8} (h : l = modeP m 9) (hm : inR m 0 1023 = true) (h5 : 512 ≤ m) : (⟨l.toArray⟩ : ByteArray) ++ (⟨#[43]⟩ : ByteArray) = modeT m := by
  rw [cat1, modeT_in hm, modeL, if_pos h5, h]
theorem mode_end_no {m : Int} {l : List UInt8} (h : l = modeP m 9) (hm : inR m 0 1023 = true) (h5 : ¬ 512 ≤ m) : (⟨l.toArray⟩ : ByteArray) = modeT m := by
  rw [modeT_in hm, modeL, if_neg h5, h, List.append_nil]

end Go.Proofs.YtlnlpholhnbifaaDoor
