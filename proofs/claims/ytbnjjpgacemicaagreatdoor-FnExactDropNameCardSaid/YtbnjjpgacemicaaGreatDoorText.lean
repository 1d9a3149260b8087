/-
  Contract: markText.
  Conditions: none but a bound.
-/
import Derived.Test.YtbnjjpgacemicaaGreatDoorMark
namespace Go.Proofs.YtbnjjpgacemicaaGreatDoor
open Go.RowKit Vc
attribute [local irreducible] WpC WpL WpD CallV QCallV Made AppV Ld LdN Ix EndV I64 MutN Mut CellsAt

def digs : Nat → Nat → List UInt8 → List UInt8
  | 0, _, out => out
  | f + 1, k, out => if k = 0 then out else digs f (k / 10) (UInt8.ofNat (48 + k % 10) :: out)
theorem digs_fuel (f : Nat) : ∀ (g k : Nat) (out : List UInt8), k ≤ f → k ≤ g → digs f k out = digs g k out := by
  induction f with
  | zero =>
    intro g k out h1 h2
    have : k = 0 := by omega
    subst this
    cases g <;> simp [digs]
  | succ f ih =>
    intro g k out h1 h2
    cases g with
    | zero =>
      have : k = 0 := by omega
      subst this
      simp [digs]
    | succ g =>
      simp only [digs]
      split
      · rfl
      · exact ih g (k / 10) _ (by omega) (by omega)
/-- The text that marks a number. -/
def markT (k : Int) : ByteArray := if k ≤ 0 then ⟨#[109, 48]⟩ else ⟨#[109]⟩ ++ ⟨(digs k.toNat k.toNat []).toArray⟩

theorem ba_append (a b : List UInt8) : (⟨a.toArray⟩ ++ ⟨b.toArray⟩ : ByteArray) = ⟨(a ++ b).toArray⟩ := by
  ext1
  simp
theorem digs_len (f : Nat) : ∀ (k : Nat) (out : List UInt8), (digs f k out).length ≤ out.length + k := by
  induction f with
  | zero => intro k out; simp [digs]
  | succ f ih =>
    intro k out
    simp only [digs]
    split
    · omega
    · have := ih (k / 10) (UInt8.ofNat (48 + k % 10) :: out)
      simp only [List.length_cons] at this
      omega
theorem markText_vc (k : Int) (w : World) (h1 : k ≤ 17592186044416) : Gives Tryz.prog 40 #[.int .i64 k] w (.string (markT k)) := by
  refine calls_of cx_ok Tryz.func40 Tryz.ntmps40 Tryz.results40 rfl rfl ?_
  repeat (first | refine jC ?_ | refine jN ?_ | refine jS ?_ | refine jR ?_ | refine jT ?_ | refine jB ?_ | refine jX rfl ?_ | refine jY rfl ?_ | refine jK ?_ | refine jD ?_ | refine jE ?_)
  refine Br.intro (fun h => ?_) (fun h => ?_)
  · repeat (first | refine jC ?_ | refine jN ?_ | refine jS ?_ | refine jR ?_ | refine jT ?_ | refine jB ?_ | refine jX rfl ?_ | refine jY rfl ?_ | refine jK ?_ | refine jD ?_ | refine jE ?_)
    exact EndV.val (by rw [markT, if_pos (of_decide_eq_true h)]) (Ext.refl _)
  have h0 : 0 < k := by have := of_decide_eq_false h; omega
  repeat (first | refine jC ?_ | refine jN ?_ | refine jS ?_ | refine jR ?_ | refine jT ?_ | refine jB ?_ | refine jX rfl ?_ | refine jY rfl ?_ | refine jK ?_ | refine jD ?_ | refine jE ?_)
  refine WpC.loop (α := Nat × List UInt8 × World) (fun x => ⟨[(0, .v (.int .i64 (x.1 : Int))), (3, .v (.string ⟨x.2.1.toArray⟩))], [], x.2.2⟩)
    (fun x => x.1 ≤ k.toNat ∧ digs x.1 x.1 x.2.1 = digs k.toNat k.toNat [] ∧ x.2.1.length + x.1 ≤ k.toNat + 0 + x.2.1.length ∧ x.2.1.length ≤ k.toNat - x.1 ∧ Ext w x.2.2) (fun x => x.1) (k.toNat, [], w)
    ⟨Nat.le_refl _, rfl, by simp, by simp, Ext.refl _⟩ ⟨⟨by show some _ = some _; rw [Int.toNat_of_nonneg (by omega)], rfl, trivial⟩, trivial, trivial, Ext.refl _⟩ ?_
  rintro ⟨j, out, wj⟩ ⟨hj, hd, _, hlen, hx⟩
  dsimp only at hj hd hlen hx
  repeat (first | refine jC ?_ | refine jN ?_ | refine jS ?_ | refine jR ?_ | refine jT ?_ | refine jB ?_ | refine jX rfl ?_ | refine jY rfl ?_ | refine jK ?_ | refine jD ?_ | refine jE ?_)
  refine Br.intro (fun h => ?_) (fun h => ?_)
  · have hj0 : 0 < j := by have := of_decide_eq_true h; omega
    repeat (first | refine jC ?_ | refine jN ?_ | refine jS ?_ | refine jR ?_ | refine jT ?_ | refine jB ?_ | refine jX rfl ?_ | refine jY rfl ?_ | refine jK ?_ | refine jD ?_ | refine jE ?_)
    refine ⟨by omega, ?_⟩
    repeat (first | refine jC ?_ | refine jN ?_ | refine jS ?_ | refine jR ?_ | refine jT ?_ | refine jB ?_ | refine jX rfl ?_ | refine jY rfl ?_ | refine jK ?_ | refine jD ?_ | refine jE ?_)
    refine ⟨I64.mk (by omega), ?_⟩
    repeat (first | refine jC ?_ | refine jN ?_ | refine jS ?_ | refine jR ?_ | refine jT ?_ | refine jB ?_ | refine jX rfl ?_ | refine jY rfl ?_ | refine jK ?_ | refine jD ?_ | refine jE ?_)
    refine ⟨by constructor <;> omega, ?_⟩
    repeat (first | refine jC ?_ | refine jN ?_ | refine jS ?_ | refine jR ?_ | refine jT ?_ | refine jB ?_ | refine jX rfl ?_ | refine jY rfl ?_ | refine jK ?_ | refine jD ?_ | refine jE ?_)
    refine Made.mk fun g w1 hx1 hg1 hg2 hg3 _ => ?_
    repeat (first | refine jC ?_ | refine jN ?_ | refine jS ?_ | refine jR ?_ | refine jT ?_ | refine jB ?_ | refine jX rfl ?_ | refine jY rfl ?_ | refine jK ?_ | refine jD ?_ | refine jE ?_)
    refine ⟨[UInt8.ofNat (48 + j % 10)], rfl, CellsAt.of_block hg3 (fun i v hi => ?_), ?_⟩
    · rw [Nat.zero_add]
      cases i with
      | zero =>
        simp only [List.map_cons, List.map_nil, List.getElem?_cons_zero, Option.some.injEq] at hi ⊢
        rw [← hi]
        congr 1
        have : (UInt8.ofNat (48 + j % 10)).toNat = 48 + j % 10 := by simp; omega
        rw [this]; omega
      | succ i => simp at hi
    repeat (first | refine jC ?_ | refine jN ?_ | refine jS ?_ | refine jR ?_ | refine jT ?_ | refine jB ?_ | refine jX rfl ?_ | refine jY rfl ?_ | refine jK ?_ | refine jD ?_ | refine jE ?_)
    refine ⟨by show 1 + out.length ≤ _; omega, ?_⟩
    repeat (first | refine jC ?_ | refine jN ?_ | refine jS ?_ | refine jR ?_ | refine jT ?_ | refine jB ?_ | refine jX rfl ?_ | refine jY rfl ?_ | refine jK ?_ | refine jD ?_ | refine jE ?_)
    refine ⟨by omega, ?_⟩
    repeat (first | refine jC ?_ | refine jN ?_ | refine jS ?_ | refine jR ?_ | refine jT ?_ | refine jB ?_ | refine jX rfl ?_ | refine jY rfl ?_ | refine jK ?_ | refine jD ?_ | refine jE ?_)
    refine ⟨(j / 10, UInt8.ofNat (48 + j % 10) :: out, w1), ⟨by show j / 10 ≤ _; omega, ?_, by simp; omega, by simp; omega, hx.trans hx1⟩, by show j / 10 < j; omega, ⟨by show some _ = some _; simp, ?_, trivial⟩, trivial, trivial, Ext.refl _⟩
    · show digs (j / 10) (j / 10) (UInt8.ofNat (48 + j % 10) :: out) = _
      rw [← hd]
      obtain ⟨i, rfl⟩ : ∃ i, j = i + 1 := ⟨j - 1, by omega⟩
      rw [digs, if_neg (by omega)]
      exact digs_fuel _ _ _ _ (by omega) (by omega)
    · show some _ = some _
      rw [ba_append]; rfl
  · have hj0 : j = 0 := by have := of_decide_eq_false h; omega
    subst hj0
    repeat (first | refine jC ?_ | refine jN ?_ | refine jS ?_ | refine jR ?_ | refine jT ?_ | refine jB ?_ | refine jX rfl ?_ | refine jY rfl ?_ | refine jK ?_ | refine jD ?_ | refine jE ?_)
    refine ⟨?_, ?_⟩
    · have := digs_len k.toNat k.toNat []
      show 1 + out.length ≤ _
      omega
    repeat (first | refine jC ?_ | refine jN ?_ | refine jS ?_ | refine jR ?_ | refine jT ?_ | refine jB ?_ | refine jX rfl ?_ | refine jY rfl ?_ | refine jK ?_ | refine jD ?_ | refine jE ?_)
    refine EndV.val ?_ hx
    rw [markT, if_neg (by omega), ← hd]
    rfl
end Go.Proofs.YtbnjjpgacemicaaGreatDoor
