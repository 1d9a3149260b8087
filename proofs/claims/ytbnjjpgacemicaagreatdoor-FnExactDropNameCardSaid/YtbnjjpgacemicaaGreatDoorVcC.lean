/-
  The conditions of code: operations that make or write memory, calls, regions, branches, loops; and that they suffice.
  Conditions: none.
-/
import Derived.Test.YtbnjjpgacemicaaGreatDoorVcSnd
namespace Go.Proofs.YtbnjjpgacemicaaGreatDoor.Vc
open Go.RowKit

/-- What is known of the program: types, functions; how many slots there are. -/
structure Cx where
  T : List TI
  F : List FuncId
  n : Nat

def memN : List Nat → Nat → Bool
  | [], _ => false
  | x :: r, t => match Nat.beq x t with
    | true => true
    | false => memN r t
def funB (P : Program) (f : FuncId) : Bool := match P.funcs[f]? with
  | some fn => !(fn.name == "runtime.NumGoroutine") && fn.body.isSome
  | none => false
def CxOk (P : Program) (c : Cx) : Prop := TOk P c.T ∧ c.F.all (funB P) = true ∧ P.follows .mixedOrders = true

/-- A call of a function, in a region of a fixed order. -/
def CallV (P : Program) (f : FuncId) (args : Array Value) (H : List OE) (A : World) (K : Value → List OE → World → Prop) : Prop :=
  ∃ Φ : Value → World → World → Prop, (∀ w, Ext A w → OwnAt H w → Calls P f args w (fun e w' => ∃ v, e = .returned v ∧ Φ v w w')) ∧
    ∀ v w w', Ext A w → OwnAt H w → Φ v w w' → ∃ A' H', (∃ m, H' = H ++ m) ∧ Ext A' w' ∧ OwnAt H' w' ∧ K v H' A'
/-- A call of a function, in a region that draws its order: one value, and nothing turned. -/
def QCallV (P : Program) (f : FuncId) (args : Array Value) (H : List OE) (A : World) (K : Value → Prop) : Prop :=
  ∃ v, (∀ w, Ext A w → OwnAt H w → Calls P f args w (fun e w' => e = .returned v ∧ Ext w w')) ∧ K v

def catK : List Value → List Value → (List Value → Prop) → Prop
  | [], l, K => K l
  | x :: r, l, K => catK r l fun m => K (x :: m)

/-- Which function is called, with which arguments. -/
def calleeV (F : List FuncId) (st : St) (c : Call) (K : FuncId → Array Value → Prop) : Prop :=
  match c.callee with
  | .value g => match ev st g with
    | some (.v (.func (.func f) fi cap)) => match memN F f with
      | true => evL st c.args.toList fun l => catK l cap.toList fun l => catK fi.toList l fun l => K f l.toArray
      | false => False
    | _ => False
  | _ => False

def newOE (H : List OE) (b : Nat) (cs : List Value) (t : TypeId) : List OE := match H with
  | [] => [⟨b, cs, t⟩]
  | x :: r => x :: newOE r b cs t
def newK (b : Nat) (cs : List Value) (t : TypeId) : List OE → Nat → (Nat → List OE → Prop) → Prop
  | [], i, K => K i [⟨b, cs, t⟩]
  | x :: r, i, K => newK b cs t r (i + 1) fun j H => K j (x :: H)
def setK (cs : List Value) : List OE → Nat → (List OE → Prop) → Prop
  | [], _, K => K []
  | ⟨b, _, t⟩ :: r, 0, K => K (⟨b, cs, t⟩ :: r)
  | x :: r, n + 1, K => setK cs r n fun H => K (x :: H)

/-- A new block that is no more than a world's own. -/
def Made (H : List OE) (A : World) (cells : Array Value) (t : TypeId) (K : Nat → World → Prop) : Prop :=
  ∀ (g : Nat) (w1 : World), Ext A w1 → A.heap.size ≤ g → g < w1.heap.size → w1.heap[g]? = some (.cells cells t (0, 0)) → OwnNe H g → K g w1

/-- The values of a slice that is written out. -/
def flatK (n : Nat) : List Value → (List Value → Prop) → Prop
  | [], K => K []
  | v :: r, K => match v with
    | .agg cs => match Nat.beq (len1 cs.toList) n with
      | true => flatK n r fun l => catK cs.toList l K
      | false => False
    | v => match n with
      | 1 => flatK n r fun l => K (v :: l)
      | _ => False
def isRange : Nat → List Nat → Bool
  | _, [] => true
  | k, i :: r => match Nat.beq k i with
    | true => isRange (k + 1) r
    | false => false

def appW (A : World) (a : Option Addr) (k : Nat) (xs : List Value) : World := match a with
  | some p => setL A p.block (p.off + k) xs
  | none => A
/-- append. -/
def AppV (H : List OE) (A : World) (e : TypeId) (sz bytes : Nat) (z : Value) (a : Option Addr) (len cap : Nat) (a2 : Option Addr) (m : Nat) (K : Value → World → Prop) : Prop :=
  (∃ xs : List Value, xs.length = m * sz ∧ (∀ c, c ∈ xs → c.oneCell' = true) ∧ (∀ p, a2 = some p → 0 < m → ∃ b o, p = ⟨b, o, none⟩ ∧ CellsAt A b o xs) ∧ (a2 = none → m = 0) ∧
    (len + m ≤ cap → (∀ p, a = some p → ∃ b o, p = ⟨b, o, none⟩ ∧ MutN A b (o + len * sz) (m * sz) ∧ OwnNe H b) ∧
      K (.slice a (len + m) cap) (appW A a (len * sz) xs)) ∧
    (cap < len + m → (len + m) * bytes ≤ 140737488355328 ∧ len + m ≤ 9223372036854775807 ∧
      ∃ os : List Value, os.length = len * sz ∧ (∀ p, a = some p → ∃ b o, p = ⟨b, o, none⟩ ∧ CellsAt A b o os) ∧ (a = none → len = 0) ∧
        ∀ c : Nat, len + m ≤ c → c ≤ 9223372036854775807 → Made H A ((os ++ xs).toArray ++ Builtin.zeroCells z.cells (c - (len + m))) e fun g w1 => K (.slice (some ⟨g, 0, none⟩) (len + m) c) w1))

/-- The cells of a value, written out. -/
def cellsK (v : Value) (K : List Value → Prop) : Prop := match v with
  | .agg cs => forceA cs.toList K
  | v => K [v]

/-- The conditions of an operation in a region of a fixed order. -/
def stepV (P : Program) (c : Cx) (st : St) (o : Op) (K : SV → St → Prop) : Prop := match st with
  | ⟨E, H, A⟩ => match o with
  | .alloc t => match get c.T t with
    | none => False
    | some ⟨_, _, _, _, z⟩ => cellsK z fun cs => ∀ b, A.heap.size ≤ b → newK b cs t H 0 fun i H' => K (.own i 0) ⟨E, H', A⟩
  | .box t x => onV (ev ⟨E, H, A⟩ x) H fun v => cellsK v fun cs => ∀ b, A.heap.size ≤ b → newK b cs t H 0 fun i H' => K (.own i 0) ⟨E, H', A⟩
  | .store t x y => match get c.T t with
    | none => False
    | some ⟨_, _, sz, _, _⟩ => match ev ⟨E, H, A⟩ x with
      | some (.own k o) => match nth H k with
        | none => False
        | some ⟨b, cs, _⟩ => onV (ev ⟨E, H, A⟩ y) H fun v => cellsK v fun l => A.heap.size ≤ b ∧ l.length = sz ∧ o + sz ≤ cs.length ∧ (∀ c, c ∈ l → c.oneCell' = true) ∧
          forceA (putL cs o l) fun cs' => setK cs' H k fun H' => K (.v undef) ⟨E, H', A⟩
      | some (.v (.pointer (some ⟨b, o, none⟩))) => onV (ev ⟨E, H, A⟩ y) H fun v => cellsK v fun l => MutN A b o sz ∧ OwnNe H b ∧ l.length = sz ∧ (∀ c, c ∈ l → c.oneCell' = true) ∧
          K (.v undef) ⟨E, H, setL A b o l⟩
      | _ => False
  | .buildSlice t len parts => match get c.T t with
    | some ⟨_, .slice e, _, _, _⟩ => match get c.T e with
        | none => False
        | some ⟨_, _, sz, _, _⟩ => match isRange 0 (parts.toList.map (·.1)), Nat.beq (len1 parts.toList) len, Nat.ble (len * sz) 16777216 with
          | true, true, true => evL ⟨E, H, A⟩ (parts.toList.map (·.2)) fun vs => flatK sz vs fun cs => forceA cs fun cs => Made H A cs.toArray e fun g w1 => K (.v (.slice (some ⟨g, 0, none⟩) len len)) ⟨E, H, w1⟩
          | _, _, _ => False
    | _ => False
  | .makeSlice t l cp => match get c.T t with
    | some ⟨_, .slice e, _, _, _⟩ => match get c.T e with
        | none => False
        | some ⟨_, _, sz, by_, z⟩ => match ev ⟨E, H, A⟩ l, ev ⟨E, H, A⟩ cp with
          | some (.v (.int _ n)), some (.v (.int _ n')) => ∃ N : Nat, n = (N : Int) ∧ n' = (N : Int) ∧ by_ * N ≤ 281474976710656 ∧ N ≤ 9223372036854775807 ∧
              Made H A (madeCells z.cells (N * sz)) e fun g w1 => K (.v (.slice (some ⟨g, 0, none⟩) N N)) ⟨E, H, w1⟩
          | _, _ => False
    | _ => False
  | .convert s d x => match get c.T s, get c.T d with
    | some ⟨_, .slice e, _, _, _⟩, some ⟨_, .str, _, _, _⟩ => match get c.T e with
        | some ⟨_, .int .u8, _, _, _⟩ => match ev ⟨E, H, A⟩ x with
          | some (.v (.slice (some ⟨b, o, none⟩) len _)) => ∃ l : List UInt8, l.length = len ∧ CellsAt A b o (l.map fun c => .int .u8 (c.toNat : Int)) ∧ K (.v (.string ⟨l.toArray⟩)) ⟨E, H, A⟩
          | _ => False
        | _ => False
    | _, _ => opV c.T ⟨E, H, A⟩ (.convert s d x) fun s => K s ⟨E, H, A⟩
  | .call cl => match cl.callee with
    | .builtin .len => opV c.T ⟨E, H, A⟩ (.call cl) fun s => K s ⟨E, H, A⟩
    | .builtin .append => match cl.args.toList, cl.argTypes.toList with
      | [x, y], [t, t'] => match get c.T t, get c.T t' with
        | some ⟨_, .slice e, _, _, _⟩, some ⟨_, .slice _, _, _, _⟩ => match get c.T e with
            | some ⟨_, _, sz, by_, z⟩ => match ev ⟨E, H, A⟩ x, ev ⟨E, H, A⟩ y with
              | some (.v (.slice a len cap)), some (.v (.slice a2 m _)) => AppV H A e sz by_ z a len cap a2 m fun v A' => K (.v v) ⟨E, H, A'⟩
              | _, _ => False
            | none => False
        | _, _ => False
      | _, _ => False
    | .builtin _ => False
    | _ => calleeV c.F ⟨E, H, A⟩ cl fun f args => CallV P f args H A fun v H' A' => K (.v v) ⟨E, H', A'⟩
  | o => opV c.T ⟨E, H, A⟩ o fun s => K s ⟨E, H, A⟩

/-- The conditions of an operation in a region that draws its order. -/
def quietV (P : Program) (c : Cx) (st : St) (o : Op) (K : SV → Prop) : Prop := match st with
  | ⟨E, H, A⟩ => match o with
  | .call cl => match cl.callee with
    | .builtin .len => opV c.T ⟨E, H, A⟩ (.call cl) K
    | .builtin _ => False
    | _ => calleeV c.F ⟨E, H, A⟩ cl fun f args => QCallV P f args H A fun v => K (.v v)
  | o => opV c.T ⟨E, H, A⟩ o K

def putS (n : Nat) (st : St) (d : Option Tmp) (s : SV) (K : St → Prop) : Prop :=
  match d with
  | none => K st
  | some d => match Nat.blt d n with
    | true => match st with
      | ⟨E, H, A⟩ => K ⟨(d, s) :: E, H, A⟩
    | false => False

/-- Whether an operation is carried out. -/
def guardV (ops : List Oper) (st : St) (g : Option (Nat × Bool)) (yes no : St → Prop) : Prop :=
  match g with
  | none => yes st
  | some (j, b) => match st with
    | ⟨E, H, A⟩ => match nth ops j with
    | none => False
    | some o => match o.dst with
      | none => False
      | some d => match look E d with
        | some (.v (.bool x)) => Br x ((match b with | true => yes | false => no) ⟨(d, .v (.bool true)) :: E, H, A⟩) ((match b with | true => no | false => yes) ⟨(d, .v (.bool false)) :: E, H, A⟩)
        | some (.v (.tuple _)) => no ⟨E, H, A⟩
        | _ => False

def Lex (ops : Array Oper) : Prop := Region.lexB .any ops = true

/-- One state knows what another knows. -/
def EnvLe (e : List (Nat × SV)) : List (Nat × SV) → Prop
  | [] => True
  | (t, s) :: r => look e t = some s ∧ EnvLe e r
def OwnLe : List OE → List OE → Prop
  | _, [] => True
  | [], _ :: _ => False
  | x :: r, y :: s => x = y ∧ OwnLe r s
/-- No slot stands for a block that is forgotten. -/
def EnvOk (H : List OE) : List (Nat × SV) → Prop
  | [] => True
  | (_, .v _) :: r => EnvOk H r
  | (_, .own i _) :: r => Nat.blt i (len1 H) = true ∧ EnvOk H r
def StLe (st st' : St) : Prop := EnvLe st.env st'.env ∧ OwnLe st.own st'.own ∧ EnvOk st'.own st'.env ∧ Ext st'.anc st.anc

def lookX : List (Nat × (St → Prop)) → Nat → Option (St → Prop)
  | [], _ => none
  | (k, v) :: r, t => match Nat.beq k t with
    | true => some v
    | false => lookX r t

/-- The end of a function. -/
def resV (T : List TI) (st : St) : List ResultVar → (List Value → Prop) → Prop
  | [], K => K []
  | .tmp t :: r, K => onV (ev st (.tmp t)) st.own fun v => resV T st r fun l => K (v :: l)
  | .cell a t :: r, K => opV T st (.load t (.tmp a)) fun s => match s with
    | .v v => resV T st r fun l => K (v :: l)
    | _ => False
def EndV (H : List OE) (A : World) (R : Ending → World → Prop) (v : Value) : Prop := ∀ w, Ext A w → OwnAt H w → R (.returned v) w
def doneV (T : List TI) (rs : List ResultVar) (R : Ending → World → Prop) (st : St) : Prop := match st with
  | ⟨E, H, A⟩ => resV T ⟨E, H, A⟩ rs fun l => match l with
    | [v] => EndV H A R v
    | l => EndV H A R (.tuple l.toArray)

def initK : Nat → List Value → (List (Nat × SV) → Prop) → Prop
  | _, [], K => K []
  | k, v :: r, K => initK (k + 1) r fun l => K ((k, .v v) :: l)
def initE : Nat → List Value → List (Nat × SV)
  | _, [] => []
  | k, v :: r => (k, .v v) :: initE (k + 1) r

end Go.Proofs.YtbnjjpgacemicaaGreatDoor.Vc
