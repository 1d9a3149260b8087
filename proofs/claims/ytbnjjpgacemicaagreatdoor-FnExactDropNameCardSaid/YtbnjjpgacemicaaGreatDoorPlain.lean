/-
  Plain functions on integers: ranges, groups, rights, credentials; what the program computes, without the program.
  Conditions: none.
-/
import Derived.Test.YtbnjjpgacemicaaGreatDoorFrame
namespace Go.Proofs.YtbnjjpgacemicaaGreatDoor
open Go.RowKit

def inR (n lo hi : Int) : Bool := decide (lo ≤ n) && decide (n ≤ hi)
theorem inR_iff {n lo hi : Int} : inR n lo hi = true ↔ lo ≤ n ∧ n ≤ hi := by simp [inR]
theorem inR_not {n lo hi : Int} : inR n lo hi = false ↔ n < lo ∨ hi < n := by
  rw [← Bool.not_eq_true, inR_iff]; omega
theorem inR_yes {n lo hi : Int} (h : lo ≤ n) (h' : n ≤ hi) : inR n lo hi = true := inR_iff.2 ⟨h, h'⟩

/-- Is a group in a sum of groups? -/
def hasG (g k : Int) : Bool := inR g 0 255 && inR k 0 7 && decide (g / 2 ^ k.toNat % 2 = 1)

structure Cr where
  real : Int
  acts : Int
  saved : Int
  groups : Int
def Cr.ok (c : Cr) : Bool := inR c.real 0 99 && inR c.acts 0 99 && inR c.saved 0 99 && inR c.groups 0 255
@[reducible] def Cr.v (c : Cr) : Value := .agg #[.int .i64 c.real, .int .i64 c.acts, .int .i64 c.saved, .int .i64 c.groups]
def Cr.wf (c : Cr) : Prop := (Lit.int .i64 c.real).wf = true ∧ (Lit.int .i64 c.acts).wf = true ∧ (Lit.int .i64 c.saved).wf = true ∧ (Lit.int .i64 c.groups).wf = true
theorem Cr.ok_iff {c : Cr} : c.ok = true ↔ (0 ≤ c.real ∧ c.real ≤ 99) ∧ (0 ≤ c.acts ∧ c.acts ≤ 99) ∧ (0 ≤ c.saved ∧ c.saved ≤ 99) ∧ (0 ≤ c.groups ∧ c.groups ≤ 255) := by
  simp [Cr.ok, inR_iff, and_assoc]

/-- Rights of a class in a mode. -/
def rightsOf (mode cls : Int) : Int := mode / 2 ^ (6 - 3 * cls).toNat % 8
def rightsFor (mode cls : Int) : Int := if inR mode 0 1023 && inR cls 0 2 then rightsOf mode cls else -1
theorem rightsOf_bd (mode cls : Int) : 0 ≤ rightsOf mode cls ∧ rightsOf mode cls ≤ 7 := by
  unfold rightsOf; omega

/-- Bits of 64-bit integers that are not negative. -/
theorem ofInt_i64 (a : Nat) (ha : a < 9223372036854775808) : (BitVec.ofInt 64 (a : Int)).toNat = a := by
  rw [BitVec.ofInt_natCast, BitVec.toNat_ofNat]; exact Nat.mod_eq_of_lt (by omega)
theorem i64_and_nat (a b : Nat) (ha : a < 9223372036854775808) (hb : b < 9223372036854775808) : bits .and .i64 (a : Int) (b : Int) = ((a &&& b : Nat) : Int) := by
  have hx : a &&& b ≤ a := Nat.and_le_left
  show IntKind.i64.wrap ((BitVec.ofInt 64 (a : Int) &&& BitVec.ofInt 64 (b : Int)).toNat : Int) = _
  rw [BitVec.toNat_and, ofInt_i64 a ha, ofInt_i64 b hb, IntKind.wrap_i64]
  omega
theorem i64_and (a b : Int) (h1 : 0 ≤ a) (h2 : a < 1048576) (h3 : 0 ≤ b) (h4 : b < 1048576) : bits .and .i64 a b = ((a.toNat &&& b.toNat : Nat) : Int) := by
  obtain ⟨A, rfl⟩ := Int.eq_ofNat_of_zero_le h1
  obtain ⟨B, rfl⟩ := Int.eq_ofNat_of_zero_le h3
  simpa using i64_and_nat A B (by omega) (by omega)
theorem i64_or_nat (a b : Nat) (ha : a < 4611686018427387904) (hb : b < 4611686018427387904) : bits .or .i64 (a : Int) (b : Int) = ((a ||| b : Nat) : Int) := by
  have hx : a ||| b < 2 ^ 62 := Nat.or_lt_two_pow (by omega) (by omega)
  show IntKind.i64.wrap ((BitVec.ofInt 64 (a : Int) ||| BitVec.ofInt 64 (b : Int)).toNat : Int) = _
  rw [BitVec.toNat_or, ofInt_i64 a (by omega), ofInt_i64 b (by omega), IntKind.wrap_i64]
  omega
theorem i64_or (a b : Int) (h1 : 0 ≤ a) (h2 : a < 1048576) (h3 : 0 ≤ b) (h4 : b < 1048576) : bits .or .i64 a b = ((a.toNat ||| b.toNat : Nat) : Int) := by
  obtain ⟨A, rfl⟩ := Int.eq_ofNat_of_zero_le h1
  obtain ⟨B, rfl⟩ := Int.eq_ofNat_of_zero_le h3
  simpa using i64_or_nat A B (by omega) (by omega)
theorem i64_andNot_nat (a b : Nat) (ha : a < 4611686018427387904) (hb : b < 4611686018427387904) : bits .andNot .i64 (a : Int) (b : Int) = ((a &&& (18446744073709551615 - b) : Nat) : Int) := by
  have hx : a &&& (18446744073709551615 - b) ≤ a := Nat.and_le_left
  show IntKind.i64.wrap ((BitVec.ofInt 64 (a : Int) &&& ~~~BitVec.ofInt 64 (b : Int)).toNat : Int) = _
  rw [BitVec.toNat_and, BitVec.toNat_not, ofInt_i64 a (by omega), ofInt_i64 b (by omega), IntKind.wrap_i64]
  have e : 2 ^ 64 - 1 - b = 18446744073709551615 - b := by omega
  rw [e]
  omega
theorem i64_andNot (a b : Int) (h1 : 0 ≤ a) (h2 : a < 1048576) (h3 : 0 ≤ b) (h4 : b < 1048576) : bits .andNot .i64 a b = ((a.toNat &&& (18446744073709551615 - b.toNat) : Nat) : Int) := by
  obtain ⟨A, rfl⟩ := Int.eq_ofNat_of_zero_le h1
  obtain ⟨B, rfl⟩ := Int.eq_ofNat_of_zero_le h3
  simpa using i64_andNot_nat A B (by omega) (by omega)
theorem i64_and1 (a : Int) (h1 : 0 ≤ a) (h2 : a < 1048576) : bits .and .i64 a 1 = a % 2 := by
  rw [i64_and a 1 h1 h2 (by omega) (by omega)]
  have : a.toNat &&& (1 : Int).toNat = a.toNat % 2 := by
    rw [show (1 : Int).toNat = 2 ^ 1 - 1 from rfl, Nat.and_two_pow_sub_one_eq_mod]
  rw [this]; omega
theorem i64_and7 (a : Int) (h1 : 0 ≤ a) (h2 : a < 1048576) : bits .and .i64 a 7 = a % 8 := by
  rw [i64_and a 7 h1 h2 (by omega) (by omega)]
  have : a.toNat &&& (7 : Int).toNat = a.toNat % 8 := by
    rw [show (7 : Int).toNat = 2 ^ 3 - 1 from rfl, Nat.and_two_pow_sub_one_eq_mod]
  rw [this]; omega
theorem div_pow_bd (a : Int) (k : Nat) (h : 0 ≤ a) : 0 ≤ a / 2 ^ k ∧ a / 2 ^ k ≤ a := by
  have h2 : (1 : Int) ≤ 2 ^ k := by
    have := Nat.one_le_two_pow (n := k)
    exact_mod_cast this
  exact ⟨Int.ediv_nonneg h (by omega), Int.ediv_le_self _ h⟩

theorem cellsCred : Tryz.prog.cellsOf 24 = 4 := by kernel_rfl
set_option maxRecDepth 100000 in
theorem open_cred {H : Type} {enc : TypeId × Value → H} {W : World} {r : Reach} {b0 base : Nat} {sp : Nat → Bool} {held : Bool} {v : Value} {d : DataW H} {p : List MemPlace}
    (hv : Value.okWide Tryz.prog W r b0 24 v) (h : DataW.Trod enc Tryz.prog W base sp held 24 v d p) : ∃ c : Cr, v = c.v ∧ c.wf := by
  obtain ⟨v0, v1, v2, v3, y0, y1, y2, y3, n, rfl, _, _, h0, h1, h2, h3⟩ := Go.Joins.open_agg4 Tryz.underlying24 (by kernel_rfl) cellsCred hv h
  obtain ⟨a0, e0, _, k0⟩ := DataW.trod_int Tryz.underlying3 h0
  obtain ⟨a1, e1, _, k1⟩ := DataW.trod_int Tryz.underlying3 h1
  obtain ⟨a2, e2, _, k2⟩ := DataW.trod_int Tryz.underlying3 h2
  obtain ⟨a3, e3, _, k3⟩ := DataW.trod_int Tryz.underlying3 h3
  simp at e0 e1 e2 e3
  subst e0 e1 e2 e3
  exact ⟨⟨a0, a1, a2, a3⟩, rfl, k0, k1, k2, k3⟩

def maskOf (mode mask : Int) : Int := if inR mode 0 1023 && inR mask 0 1023 then bits .andNot .i64 mode mask else -1

/-- Which rights count: the owner's, the group's, all others'. -/
def clsOf (c : Cr) (owner group : Int) : Int := if c.acts = owner then 0 else if hasG c.groups group then 1 else 2
def classOf (c : Cr) (owner group : Int) : Int := if c.ok && inR owner 0 99 && inR group 0 7 then clsOf c owner group else -1
theorem clsOf_bd (c : Cr) (o g : Int) : 0 ≤ clsOf c o g ∧ clsOf c o g ≤ 2 := by
  unfold clsOf; split <;> (try split) <;> omega

def setUserC (c : Cr) (u : Int) : Cr :=
  if c.ok && inR u 0 99 then (if c.acts = 0 then ⟨u, u, u, c.groups⟩ else if u = c.real ∨ u = c.saved then ⟨c.real, u, c.saved, c.groups⟩ else c) else ⟨0, 0, 0, 0⟩
def setUserB (c : Cr) (u : Int) : Bool := c.ok && inR u 0 99 && (decide (c.acts = 0) || decide (u = c.real) || decide (u = c.saved))
def actAsB (c : Cr) (u : Int) : Bool := c.ok && inR u 0 99 && (decide (c.acts = 0) || decide (u = c.real) || decide (u = c.acts) || decide (u = c.saved))
def actAsC (c : Cr) (u : Int) : Cr :=
  if c.ok && inR u 0 99 then (if actAsB c u then ⟨c.real, u, c.saved, c.groups⟩ else c) else ⟨0, 0, 0, 0⟩
def runAsC (c : Cr) (o : Int) (f : Bool) : Cr :=
  if c.ok && inR o 0 99 then (if f then ⟨c.real, o, o, c.groups⟩ else ⟨c.real, c.acts, c.acts, c.groups⟩) else ⟨0, 0, 0, 0⟩

end Go.Proofs.YtbnjjpgacemicaaGreatDoor
