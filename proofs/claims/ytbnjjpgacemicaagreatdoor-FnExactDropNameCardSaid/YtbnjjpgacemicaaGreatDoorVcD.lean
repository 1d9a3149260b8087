/-
  Two more operations: a slice with three indices, and clear of a slice.
  Conditions: none.
-/
import Derived.Test.YtbnjjpgacemicaaGreatDoorVcP
namespace Go.Proofs.YtbnjjpgacemicaaGreatDoor.Vc
open Go.RowKit
section
variable {P : Program} {C : Cx} {E : List (Nat × SV)} {H : List OE} {A : World} {ops r : List Oper} {K : St → Prop}

theorem WpL.raw {o : Oper} (hg : o.guard = none)
    (h : ∀ a w, Sat C.n ⟨E, H, A⟩ a w → ∃ v w', (execOp a.eval o).run P w = .ok (.value v) w' ∧ ∃ st', Sat C.n st' (a.put o.dst v) w' ∧ WpL P C ops r K st') : WpL P C ops (o :: r) K ⟨E, H, A⟩ := by
  intro Q hQ a w hS
  unfold wpList
  rw [if_pos (by simp [Region.wanted, hg])]
  obtain ⟨v, w', h1, st', h2, h3⟩ := h a w hS
  refine .inl ?_
  unfold Oper.wp
  rw [h1]
  exact h3 Q hQ _ _ h2
/-- A slice with three indices. -/
theorem WpL.slice3_of (hC : CxOk P C) {d t : Nat} {ty : TypeId} {pos : String} {after : Array Edge} {x lo hi mx : Operand} {id : TypeId} {e : TypeId} {sz by_ : Nat} {z : Value} {ad : Option Addr} {len cap L M N : Nat} {k1 k2 k3 : IntKind}
    (hi' : get C.T t = some ⟨id, .slice e, sz, by_, z⟩) {id2 : TypeId} {ty2 : Ty} {sz2 by2 : Nat} {z2 : Value} (he : get C.T e = some ⟨id2, ty2, sz2, by2, z2⟩)
    (hx : ev ⟨E, H, A⟩ x = some (.v (.slice ad len cap))) (hl : ev ⟨E, H, A⟩ lo = some (.v (.int k1 (L : Int)))) (hh : ev ⟨E, H, A⟩ hi = some (.v (.int k2 (M : Int)))) (hm : ev ⟨E, H, A⟩ mx = some (.v (.int k3 (N : Int))))
    (h1 : L ≤ M) (h2 : M ≤ N) (h3 : N ≤ cap) (k : ∀ v, putS C.n ⟨E, H, A⟩ (some d) (.v v) fun st => WpL P C ops r K st) :
    WpL P C ops ({ dst := some d, op := .slice t x (some lo) (some hi) (some mx), type := ty, pos := pos, after := after, guard := none } :: r) K ⟨E, H, A⟩ := by
  refine WpL.raw rfl fun a w hS => ?_
  obtain ⟨rfl, hI⟩ := get_ok hC.1 hi'
  obtain ⟨hid, hE⟩ := get_ok hC.1 he
  have hI2 : P.underlying id = some (.slice e) := hI.2
  have hv : (Instr.sliceAt id (.slice ad len cap) (some (.int k1 (L : Int))) (some (.int k2 (M : Int))) (some (.int k3 (N : Int)))).run P w = .ok (.slice (if N = L then ad else ad.map (·.add (L * sz2))) (M - L) (N - L)) w := by
    subst hid
    have b1 : (0 : Int) ≤ (L : Int) ∧ (L : Int) ≤ (M : Int) := by omega
    have b2 : (0 : Int) ≤ (M : Int) ∧ (M : Int) ≤ (N : Int) := by omega
    have b3 : (0 : Int) ≤ (N : Int) ∧ (N : Int) ≤ (cap : Int) := by omega
    have rs := run_size hE
    simp only at rs
    simp [Instr.sliceAt, Instr.slice, Instr.sliceBounds, Instr.sliceBound, asIntOf, underlying, hI2, rs, b1, b2, b3, h1, h2, h3]
  obtain ⟨st', h4, h5⟩ := putS_ok hS (d := some d) (s := .v (.slice (if N = L then ad else ad.map (·.add (L * sz2))) (M - L) (N - L))) trivial (k _)
  refine ⟨_, w, ?_, st', h4, h5⟩
  rw [execOp]
  simp only [ev_v hS hx, ev_v hS hl, ev_v hS hh, ev_v hS hm, den, Sem.run_bind, Option.map_some, hv]
  rfl
/-- clear of a slice of one element. -/
theorem WpL.clear1_of (hC : CxOk P C) {t : Nat} {ty : TypeId} {pos : String} {after : Array Edge} {x : Operand} {id : TypeId} {e : TypeId} {sz by_ : Nat} {z : Value} {b o cap : Nat}
    (hi' : get C.T t = some ⟨id, .slice e, sz, by_, z⟩) {id2 : TypeId} {ty2 : Ty} {sz2 by2 : Nat} {z2 : Value} (he : get C.T e = some ⟨id2, ty2, sz2, by2, z2⟩)
    (hx : ev ⟨E, H, A⟩ x = some (.v (.slice (some ⟨b, o, none⟩) 1 cap))) (hm : MutN A b o z2.cells.toList.length) (h1 : ∀ c, c ∈ z2.cells.toList → c.oneCell' = true) (hb : b < A.heap.size) (hne : OwnNe H b)
    (k : WpL P C ops r K ⟨E, H, setL A b o z2.cells.toList⟩) :
    WpL P C ops ({ dst := none, op := .call { callee := .builtin .clear, args := #[x], argTypes := #[t] }, type := ty, pos := pos, after := after, guard := none } :: r) K ⟨E, H, A⟩ := by
  refine WpL.raw rfl fun a w hS => ?_
  obtain ⟨rfl, hI⟩ := get_ok hC.1 hi'
  obtain ⟨hid, hE⟩ := get_ok hC.1 he
  have hI2 : P.underlying id = some (.slice e) := hI.2
  obtain ⟨y, hx1, hx2, hx3, hx4⟩ := info_ok hE
  simp only at hid hx1 hx4
  subst hid
  have hA := hS.2.2.2.1
  have hz : (Builtin.zeroCells z2.cells 1).toList = z2.cells.toList := by
    simp only [Builtin.zeroCells, Nat.one_mul]
    apply List.ext_getElem
    · simp
    · intro i h1 h2
      simp at h1 h2 ⊢
      rw [getElem!_pos _ _ (by rw [Nat.mod_eq_of_lt h1]; exact h1)]
      congr 1
      exact Nat.mod_eq_of_lt h1
  have hst := run_storeCells P b o z2.cells.toList w 0 ((by rw [Nat.add_zero]; exact hm.ext hA)) h1
  rw [Nat.add_zero] at hst
  have hv : (Builtin.clear_ #[id] ty #[.slice (some ⟨b, o, none⟩) 1 cap]).run P w = .ok (.tuple #[]) (setL w b o z2.cells.toList) := by
    simp [Builtin.clear_, underlying, hI2, zeroValue, typeInfo, hx1, hx4, hz, hst]
  refine ⟨.tuple #[], _, ?_, _, hS.move (Ext.setL hA _ _ _ (.inr hb)) (hS.2.2.2.2.setL _ _ _ hne), k⟩
  rw [execOp]
  simp only [resolve, invoke, builtin, Sem.run_bind, Sem.run_pure, Result.andThen_ok, List.map_toArray, List.map_cons, List.map_nil, ev_v hS hx, hv]
end
end Go.Proofs.YtbnjjpgacemicaaGreatDoor.Vc
