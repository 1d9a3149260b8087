/-
  Reading texts of modes, without the program: by search over all modes, and by its letters; both are one.
  Conditions: none.
-/
import Derived.Test.YtifnjinkddelmaaModeP
import Derived.Laws.Strings
namespace Go.Proofs.Ytifnjinkddelmaa
open Go.RowKit

/-- The mode that the letters of a text tell, whatever they are. -/
def parseL (l : List UInt8) : Nat := l.foldl (fun m c => 2 * m + if c = 45 then 0 else 1) 0
def parseM (l : List UInt8) : Nat := parseL (l.take 9) + if l.length = 10 then 512 else 0
def modeHit (s : ByteArray) (m : Nat) : Bool := (modeT m).toList == s.toList
/-- The first mode with a text. -/
def readO (s : ByteArray) : Option Nat := (List.range 1024).find? (modeHit s)
def readN (s : ByteArray) : Int := match readO s with | some m => m | none => 0
def readB (s : ByteArray) : Bool := (readO s).isSome

theorem parse_all : ∀ m : Fin 1024, parseM (modeL (m.val : Int)) = m.val ∧ 9 ≤ (modeL (m.val : Int)).length ∧ (modeL (m.val : Int)).length ≤ 10 ∧ (32 : UInt8) ∉ modeL (m.val : Int) := by decide +kernel
theorem modeT_list {m : Nat} (h : m < 1024) : (modeT m).toList = modeL m := by
  rw [modeT_in (inR_yes (by omega) (by omega)), ByteArray.toList_eq]
theorem hit_iff {s : ByteArray} {m : Nat} (h : m < 1024) : modeHit s m = true ↔ modeL m = s.toList := by
  rw [modeHit, modeT_list h]; simp
theorem hit_parse {s : ByteArray} {m : Nat} (h : m < 1024) (hh : modeHit s m = true) : m = parseM s.toList ∧ 9 ≤ s.toList.length ∧ s.toList.length ≤ 10 := by
  have hp := parse_all ⟨m, h⟩
  rw [hit_iff h] at hh
  simp only [hh] at hp
  exact ⟨hp.1.symm, hp.2.1, hp.2.2.1⟩
theorem read_of_some {s : ByteArray} {m : Nat} (h : readO s = some m) : readN s = (m : Int) ∧ readB s = true := by
  unfold readN readB; rw [h]; exact ⟨rfl, rfl⟩
theorem read_of_none {s : ByteArray} (h : readO s = none) : readN s = 0 ∧ readB s = false := by
  unfold readN readB; rw [h]; exact ⟨rfl, rfl⟩
theorem readO_some {s : ByteArray} {m : Nat} (h : m < 1024) (hh : modeHit s m = true) : readO s = some m := by
  have h1 : ∃ x, readO s = some x := by
    rw [← Option.isSome_iff_exists, readO, List.find?_isSome]
    exact ⟨m, by simp; exact h, hh⟩
  obtain ⟨x, hx⟩ := h1
  have h2 := List.find?_some hx
  have h3 : x < 1024 := by have := List.mem_of_find?_eq_some hx; simpa using this
  rw [hx, (hit_parse h3 h2).1, ← (hit_parse h hh).1]
theorem readO_none {s : ByteArray} (h : ∀ m, m < 1024 → modeHit s m = false) : readO s = none := by
  rw [readO, List.find?_eq_none]
  intro x hx
  rw [h x (by simpa using hx)]; simp
theorem parseL_lt (l : List UInt8) : parseL l < 2 ^ l.length := by
  unfold parseL
  have : ∀ (l : List UInt8) (m : Nat), l.foldl (fun m c => 2 * m + if c = 45 then 0 else 1) m < (m + 1) * 2 ^ l.length := by
    intro l
    induction l with
    | nil => intro m; simp
    | cons c l ih =>
      intro m
      simp only [List.foldl_cons, List.length_cons]
      refine Nat.lt_of_lt_of_le (ih _) ?_
      rw [Nat.pow_succ, Nat.mul_comm (2 ^ l.length) 2, ← Nat.mul_assoc]
      apply Nat.mul_le_mul_right
      split <;> omega
  simpa using this l 0
theorem parseL_snoc (l : List UInt8) (c : UInt8) : parseL (l ++ [c]) = 2 * parseL l + if c = 45 then 0 else 1 := by simp [parseL]
theorem parseL_bd {l : List UInt8} (h : l.length ≤ 9) : parseL l < 512 := by
  refine Nat.lt_of_lt_of_le (parseL_lt l) ?_
  exact Nat.pow_le_pow_right (by omega) h
theorem parseM_lt (l : List UInt8) : parseM l < 1024 := by
  have := parseL_bd (l := l.take 9) (by simp; omega)
  unfold parseM; split <;> omega
/-- The reference's way: the letters' mode, if its text is the text. -/
theorem read_yes {s : ByteArray} (h : modeHit s (parseM s.toList) = true) : readN s = (parseM s.toList : Int) ∧ readB s = true := by
  exact read_of_some (readO_some (parseM_lt _) h)
theorem read_no {s : ByteArray} (h : modeHit s (parseM s.toList) = false) : readN s = 0 ∧ readB s = false := by
  have : readO s = none := readO_none fun m hm => by
    cases hh : modeHit s m with
    | false => rfl
    | true => rw [← (hit_parse hm hh).1, hh] at h; cases h
  exact read_of_none this
theorem read_len {s : ByteArray} (h : ¬ (9 ≤ s.toList.length ∧ s.toList.length ≤ 10)) : readN s = 0 ∧ readB s = false := by
  have : readO s = none := readO_none fun m hm => by
    cases hh : modeHit s m with
    | false => rfl
    | true => exact absurd (hit_parse hm hh).2 h
  exact read_of_none this
theorem read_first {s : ByteArray} {m : Nat} (h : m < 1024) (hh : modeHit s m = true) : readN s = (m : Int) ∧ readB s = true := by
  exact read_of_some (readO_some h hh)
theorem read_none {s : ByteArray} (h : ∀ m, m < 1024 → modeHit s m = false) : readN s = 0 ∧ readB s = false := by
  exact read_of_none (readO_none h)
theorem read_mode {m : Int} (h : inR m 0 1023 = true) : readN (modeT m) = m ∧ readB (modeT m) = true := by
  obtain ⟨h0, h1⟩ := inR_iff.1 h
  obtain ⟨k, rfl⟩ := Int.eq_ofNat_of_zero_le h0
  exact read_first (by omega) (by simp [modeHit])
theorem read_back {s : ByteArray} (h : readB s = true) : inR (readN s) 0 1023 = true ∧ ((modeT (readN s)).toList == s.toList) = true := by
  obtain ⟨x, hx⟩ := Option.isSome_iff_exists.1 h
  have h2 := List.find?_some hx
  have h3 : x < 1024 := by have := List.mem_of_find?_eq_some hx; simpa using this
  have e : readN s = (x : Int) := (read_of_some hx).1
  rw [e]
  exact ⟨inR_yes (by omega) (by omega), h2⟩
theorem read_not {s : ByteArray} (h : readB s = false) : readN s = 0 := by
  unfold readB at h; unfold readN
  cases hq : readO s with
  | none => rfl
  | some x => rw [hq] at h; cases h
theorem read_space (s : ByteArray) : readN (s ++ (⟨#[32]⟩ : ByteArray)) = 0 ∧ readB (s ++ (⟨#[32]⟩ : ByteArray)) = false := by
  refine read_none fun m hm => ?_
  cases hh : modeHit (s ++ (⟨#[32]⟩ : ByteArray)) m with
  | false => rfl
  | true =>
    rw [hit_iff hm, ByteArray.toList_eq, ByteArray.data_append] at hh
    have := (parse_all ⟨m, hm⟩).2.2.2
    rw [hh] at this
    simp at this
theorem modeT_size (m : Int) : (modeT m).size ≤ 10 := by
  have e : (modeT m).size = (modeT m).data.toList.length := by simp
  rw [e]
  cases h : inR m 0 1023
  · rw [modeT_out h]; decide
  · rw [modeT_in h]
    simp only [modeL, List.length_append, modeP_len]
    split <;> simp

end Go.Proofs.Ytifnjinkddelmaa
