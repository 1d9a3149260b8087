/-
  Trees in memory: what is read; what is the call's own. The small functions of the exact laws on nodes.
  Conditions: none.
-/
import Derived.Test.YtlnlpholhnbifaaDoorText
import Derived.Test.YtlnlpholhnbifaaDoorPlain
import Derived.Deep.Slices
import Derived.Deep.Fields
namespace Go.Proofs.YtlnlpholhnbifaaDoor
open Go.ChangeShapes Go.WideShapes Go.ChangeAt Go.RowKit Go.Deep Vc
attribute [local irreducible] WpC WpL WpD CallV QCallV Made AppV Ld LdN Ix EndV I64 MutN Mut CellsAt

@[reducible] def strs (l : List ByteArray) : List Value := l.map Value.string
theorem strs_get {l : List ByteArray} {k : Nat} {s : ByteArray} (h : l[k]? = some s) : (strs l)[k]? = some (.string s) := by simp [h]

/-- A node. -/
structure Nd where
  folder : Bool
  owner : Int
  group : Int
  mode : Int
  text : ByteArray
  names : List ByteArray
  kids : List Int
@[reducible] def Nd.cells (n : Nd) (nv kv : Value) : List Value := [.bool n.folder, .int .i64 n.owner, .int .i64 n.group, .int .i64 n.mode, .string n.text, nv, kv]
@[reducible] def Nd.val (n : Nd) (nv kv : Value) : Value := .agg #[.bool n.folder, .int .i64 n.owner, .int .i64 n.group, .int .i64 n.mode, .string n.text, nv, kv]
def Nd.wf (n : Nd) : Prop := (Lit.int .i64 n.owner).wf = true ∧ (Lit.int .i64 n.group).wf = true ∧ (Lit.int .i64 n.mode).wf = true ∧ n.text.size ≤ 9223372036854775807 ∧ (∀ s ∈ n.names, s.size ≤ 9223372036854775807) ∧ ∀ k ∈ n.kids, (Lit.int .i64 k).wf = true

/-- The slices of a node. -/
def NdIn (w : World) (n : Nd) (nv kv : Value) : Prop := Row1 w nv (strs n.names) ∧ Row1 w kv (ints n.kids)
theorem NdIn.ext {w w' : World} {n : Nd} {nv kv : Value} (h : NdIn w n nv kv) (hx : Ext w w') : NdIn w' n nv kv := ⟨h.1.ext hx, h.2.ext hx⟩
/-- A slice of nodes. -/
def Tree (w : World) (v : Value) (ts : List Nd) : Prop := ∃ (ad : Option Addr) (cap : Nat), v = .slice ad ts.length cap ∧ ts.length ≤ cap ∧ cap ≤ 9223372036854775807 ∧
  (0 < ts.length → ∃ b o, ad = some ⟨b, o, none⟩ ∧ b < w.heap.size ∧ ∀ i n, ts[i]? = some n → ∃ nv kv, CellsAt w b (o + i * 7) (n.cells nv kv) ∧ NdIn w n nv kv)
theorem Tree.ext {w w' : World} {v : Value} {ts : List Nd} (h : Tree w v ts) (hx : Ext w w') : Tree w' v ts := by
  obtain ⟨ad, cap, h1, h2, h3, h4⟩ := h
  exact ⟨ad, cap, h1, h2, h3, fun h0 => let ⟨b, o, h5, h6, h7⟩ := h4 h0; ⟨b, o, h5, Nat.lt_of_lt_of_le h6 hx.size, fun i n hi => let ⟨nv, kv, h8, h9⟩ := h7 i n hi; ⟨nv, kv, h8.ext hx, h9.ext hx⟩⟩⟩

end Go.Proofs.YtlnlpholhnbifaaDoor
