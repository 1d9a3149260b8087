/-
  Texts of modes, without the program.
  Conditions: none.
-/
import Derived.Test.YtlnlpholhnbifaaDoorPlain
namespace Go.Proofs.YtlnlpholhnbifaaDoor
open Go.RowKit

def mletter (k : Nat) : UInt8 := if k % 3 = 0 then 120 else if k % 3 = 1 then 119 else 114
def mch (mode : Int) (k : Nat) : UInt8 := if mode / 2 ^ k % 2 = 1 then mletter k else 45
/-- The first j letters: from the bit 8 down. -/
def modeP (mode : Int) : Nat → List UInt8
  | 0 => []
  | j + 1 => modeP mode j ++ [mch mode (8 - j)]
def modeL (mode : Int) : List UInt8 := modeP mode 9 ++ if 512 ≤ mode then [43] else []
def modeT (mode : Int) : ByteArray := if inR mode 0 1023 then ⟨(modeL mode).toArray⟩ else ⟨#[]⟩
theorem modeP_len (mode : Int) (j : Nat) : (modeP mode j).length = j := by
  induction j with
  | zero => rfl
  | succ j ih => simp [modeP, ih]
theorem modeT_out {mode : Int} (h : inR mode 0 1023 = false) : modeT mode = ⟨#[]⟩ := by simp [modeT, h]
theorem modeT_in {mode : Int} (h : inR mode 0 1023 = true) : modeT mode = ⟨(modeL mode).toArray⟩ := by simp [modeT, h]

theorem nat_and512 : ∀ m : Fin 1024, m.val &&& 512 = if 512 ≤ m.val then 512 else 0 := by decide +kernel
theorem i64_and512 (m : Int) (h0 : 0 ≤ m) (h1 : m ≤ 1023) : bits .and .i64 m 512 = if 512 ≤ m then 512 else 0 := by
  rw [i64_and m 512 h0 (by omega) (by omega) (by omega)]
  have h := nat_and512 ⟨m.toNat, by omega⟩
  simp only at h
  rw [show (512 : Int).toNat = 512 from rfl, h]
  by_cases h5 : 512 ≤ m
  · rw [if_pos h5, if_pos (by omega)]; rfl
  · rw [if_neg h5, if_neg (by omega)]; rfl

end Go.Proofs.YtlnlpholhnbifaaDoor
