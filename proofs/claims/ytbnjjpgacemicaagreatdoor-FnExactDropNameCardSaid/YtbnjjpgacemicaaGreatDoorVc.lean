/-
  A calculus of conditions: what must be shown of a function's code, reckoned from the code by plain functions; and the proof that it suffices.
  Conditions: none.
-/
import Derived.Test.YtbnjjpgacemicaaGreatDoorFrame
import Derived.Deep.Quiet
import Derived.Deep.LoopGhost
namespace Go.Proofs.YtbnjjpgacemicaaGreatDoor.Vc
open Go.RowKit

/-- A value as the calculus knows it: a value, or an address within a block of the call's own. -/
inductive SV where
  | v (x : Value)
  | own (i off : Nat)

/-- A block of the call's own whose cells are known. -/
structure OE where
  blk : Nat
  cells : List Value
  ty : TypeId

/-- What is known: of the slots, of the call's own blocks, and a world of which the present one is an extension. -/
structure St where
  env : List (Nat × SV)
  own : List OE
  anc : World

def nth {α : Type} : List α → Nat → Option α
  | [], _ => none
  | x :: _, 0 => some x
  | _ :: r, n + 1 => nth r n

def look : List (Nat × SV) → Nat → Option SV
  | [], _ => none
  | (k, v) :: r, t => match Nat.beq k t with
    | true => some v
    | false => look r t

def den (H : List OE) : SV → Value
  | .v x => x
  | .own i off => match nth H i with
    | some o => .pointer (some ⟨o.blk, off, none⟩)
    | none => undef

def SV.ok (H : List OE) : SV → Prop
  | .v _ => True
  | .own i _ => i < H.length

/-- Nothing that was there has turned. -/
abbrev Ext (w w' : World) : Prop := Below w.heap.size w w'
theorem Ext.refl (w : World) : Ext w w := Below.refl _ _
theorem Ext.trans {a b c : World} (h : Ext a b) (k : Ext b c) : Ext a c := Below.trans h (Below.mono k h.size)

def OwnAt (H : List OE) (w : World) : Prop :=
  (∀ i o, nth H i = some o → w.heap[o.blk]? = some (.cells o.cells.toArray o.ty (0, 0))) ∧
  (∀ i j o p, nth H i = some o → nth H j = some p → o.blk = p.blk → i = j)

def Sat (n : Nat) (st : St) (a : Act) (w : World) : Prop :=
  a.tmps.size = n ∧ a.defers = [] ∧ (∀ t s, look st.env t = some s → s.ok st.own ∧ a.tmps.getD t undef = den st.own s) ∧ Ext st.anc w ∧ OwnAt st.own w

/-! ### The words in which the conditions are told -/

def Br (x : Bool) (A B : Prop) : Prop := match x with
  | true => A
  | false => B
theorem Br.intro {x : Bool} {A B : Prop} (h : x = true → A) (k : x = false → B) : Br x A B := by
  cases x
  · exact k rfl
  · exact h rfl
theorem Br.yes {x : Bool} {A B : Prop} (e : x = true) (h : A) : Br x A B := by subst e; exact h
theorem Br.no {x : Bool} {A B : Prop} (e : x = false) (h : B) : Br x A B := by subst e; exact h
theorem Br.out {x : Bool} {A B : Prop} (h : Br x A B) : (x = true ∧ A) ∨ (x = false ∧ B) := by
  cases x
  · exact .inr ⟨rfl, h⟩
  · exact .inl ⟨rfl, h⟩

def I64 (n : Int) : Prop := -9223372036854775808 ≤ n ∧ n ≤ 9223372036854775807
/-- An index. -/
def Ix (n : Int) (m : Nat) (K : Nat → Prop) : Prop := ∃ j : Nat, n = (j : Int) ∧ j < m ∧ K j
theorem Ix.mk {n : Int} {m : Nat} {K : Nat → Prop} (j : Nat) (h : n = (j : Int)) (h' : j < m) (k : K j) : Ix n m K := ⟨j, h, h', k⟩
/-- A cell that is read. -/
def Ld (w : World) (p : Addr) (K : Value → Prop) : Prop := ∃ v, w.cell? p = some v ∧ K v
theorem Ld.mk {w : World} {p : Addr} {K : Value → Prop} {v : Value} (h : w.cell? p = some v) (k : K v) : Ld w p K := ⟨v, h, k⟩
def CellsAt (w : World) (b o : Nat) (l : List Value) : Prop := ∀ i v, l[i]? = some v → w.cell? ⟨b, o + i, none⟩ = some v
/-- Several cells that are read. -/
def LdN (w : World) (b o n : Nat) (K : List Value → Prop) : Prop := ∃ l : List Value, l.length = n ∧ CellsAt w b o l ∧ K l
theorem LdN.mk {w : World} {b o n : Nat} {K : List Value → Prop} {l : List Value} (h : CellsAt w b o l) (e : l.length = n) (k : K l) : LdN w b o n K := ⟨l, e, h, k⟩
/-- A cell that may be written. -/
def Mut (w : World) (b o : Nat) : Prop := (∃ u, w.cell? ⟨b, o, none⟩ = some u) ∧ w.frozen? ⟨b, o, none⟩ = false
def MutN (w : World) (b o n : Nat) : Prop := ∀ i, i < n → Mut w b (o + i)
def OwnNe (H : List OE) (b : Nat) : Prop := match H with
  | [] => True
  | x :: r => x.blk ≠ b ∧ OwnNe r b
def setL (w : World) (b o : Nat) : List Value → World
  | [] => w
  | v :: r => setL (w.setCell ⟨b, o, none⟩ v) b (o + 1) r

def onS (o : Option SV) (K : SV → Prop) : Prop := match o with
  | some s => K s
  | none => False
def onV (o : Option SV) (H : List OE) (K : Value → Prop) : Prop := match o with
  | some (.v x) => K x
  | some (.own i off) => match nth H i with
    | some o => K (.pointer (some ⟨o.blk, off, none⟩))
    | none => False
  | none => False

def ev (st : St) : Operand → Option SV
  | .tmp t => look st.env t
  | .const v => some (.v v)
  | .func f => some (.v (.func (.func f) #[] #[]))
  | .global g => some (.v (.pointer (some ⟨g, 0, none⟩)))

/-- All operands' values, one after the other. -/
def evL (st : St) : List Operand → (List Value → Prop) → Prop
  | [], K => K []
  | x :: r, K => onV (ev st x) st.own fun v => evL st r fun l => K (v :: l)

/-! ### Types, as far as the code asks for them -/

inductive Ty where
  | bool | int (k : IntKind) | str | slice (e : TypeId) | struct (fs : List Nat) | ptr | other
structure TI where
  id : TypeId
  ty : Ty
  size : Nat
  bytes : Nat
  zero : Value

def get : List TI → TypeId → Option TI
  | [], _ => none
  | i :: r, t => match Nat.beq i.id t with
    | true => some i
    | false => get r t

def TyOk (P : Program) (t : TypeId) : Ty → Prop
  | .bool => P.underlying t = some .bool
  | .int k => P.underlying t = some (.int k)
  | .str => P.underlying t = some .string
  | .slice e => P.underlying t = some (.slice e)
  | .ptr => ∃ e, P.underlying t = some (.pointer e)
  | .struct fs => ∃ F : Array Field, P.underlying t = some (.struct F) ∧ F.size = fs.length ∧ ∀ (i n : Nat), nth fs i = some n → ∃ f, F[i]? = some f ∧ f.offset = n ∧ ∃ j, P.info? f.type = some j ∧ j.size = 1 ∧ ∃ d, P.underlying f.type = some d ∧ (match d with | .struct _ => False | .array _ _ => False | _ => True)
  | .other => ∃ d, P.underlying t = some d ∧ (match d with | .struct _ => False | .array _ _ => False | _ => True)
def TIOk (P : Program) (i : TI) : Prop :=
  (P.info? i.id).map (fun x => (x.size, x.bytes, x.zero)) = some (i.size, i.bytes, some i.zero) ∧ TyOk P i.id i.ty
def TOk (P : Program) (T : List TI) : Prop := match T with
  | [] => True
  | i :: r => TIOk P i ∧ TOk P r

theorem get_ok {P : Program} {T : List TI} (h : TOk P T) {t : TypeId} {i : TI} (hi : get T t = some i) : i.id = t ∧ TIOk P i := by
  induction T with
  | nil => cases hi
  | cons x r ih =>
    unfold get at hi
    split at hi
    · rename_i hb
      cases hi
      exact ⟨Nat.eq_of_beq_eq_true hb, h.1⟩
    · exact ih h.2 hi

/-- The first n of a list, written out. -/
def force : Nat → List Value → (List Value → Prop) → Prop
  | 0, _, K => K []
  | n + 1, v :: r, K => force n r fun l => K (v :: l)
  | _ + 1, [], _ => False
/-- A list, written out. -/
def forceA : List Value → (List Value → Prop) → Prop
  | [], K => K []
  | v :: r, K => forceA r fun l => K (v :: l)
theorem forceA_eq (l : List Value) (K : List Value → Prop) : forceA l K = K l := by
  induction l generalizing K with
  | nil => rfl
  | cons v r ih => rw [forceA, ih]
def dropN {α : Type} : Nat → List α → List α
  | 0, l => l
  | n + 1, _ :: r => dropN n r
  | _ + 1, [] => []
def putAt : List Value → Nat → Value → List Value
  | [], _, _ => []
  | _ :: r, 0, v => v :: r
  | x :: r, n + 1, v => x :: putAt r n v
def putL : List Value → Nat → List Value → List Value
  | cs, _, [] => cs
  | cs, o, v :: r => putL (putAt cs o v) (o + 1) r
def setOE : List OE → Nat → List Value → List OE
  | [], _, _ => []
  | x :: r, 0, cs => ⟨x.blk, cs, x.ty⟩ :: r
  | x :: r, n + 1, cs => x :: setOE r n cs
def len1 {α : Type} : List α → Nat
  | [] => 0
  | _ :: r => len1 r + 1
def mulN (j : Nat) : Nat → Nat
  | 0 => 0
  | 1 => j
  | n + 2 => j * (n + 2)
theorem mulN_eq (j n : Nat) : mulN j n = j * n := by
  match n with
  | 0 => rfl
  | 1 => simp [mulN]
  | n + 2 => rfl
theorem len1_eq {α : Type} (l : List α) : len1 l = l.length := by
  induction l with
  | nil => rfl
  | cons x r ih => simp [len1, ih]

end Go.Proofs.YtbnjjpgacemicaaGreatDoor.Vc
