/-
  Trees in memory: what is read; what is the call's own. The small functions of the exact laws on nodes.
  Conditions: none.
-/
import Derived.Test.YtbnjjpgacemicaaGreatDoorText
import Derived.Test.YtbnjjpgacemicaaGreatDoorPlain
import Derived.Deep.Slices
import Derived.Deep.Fields
namespace Go.Proofs.YtbnjjpgacemicaaGreatDoor
open Go.ChangeShapes Go.WideShapes Go.ChangeAt Go.RowKit Go.Deep Vc
attribute [local irreducible] WpC WpL WpD CallV QCallV Made AppV Ld LdN Ix EndV I64 MutN Mut CellsAt

@[reducible] def strs (l : List ByteArray) : List Value := l.map Value.string
theorem strs_get {l : List ByteArray} {k : Nat} {s : ByteArray} (h : l[k]? = some s) : (strs l)[k]? = some (.string s) := by simp [h]

/-- A node. -/
structure Nd where
  folder : Bool
  owner : Int
  group : Int
  mode : Int
  text : ByteArray
  names : List ByteArray
  kids : List Int
@[reducible] def Nd.cells (n : Nd) (nv kv : Value) : List Value := [.bool n.folder, .int .i64 n.owner, .int .i64 n.group, .int .i64 n.mode, .string n.text, nv, kv]
@[reducible] def Nd.val (n : Nd) (nv kv : Value) : Value := .agg #[.bool n.folder, .int .i64 n.owner, .int .i64 n.group, .int .i64 n.mode, .string n.text, nv, kv]
def Nd.wf (n : Nd) : Prop := (Lit.int .i64 n.owner).wf = true ∧ (Lit.int .i64 n.group).wf = true ∧ (Lit.int .i64 n.mode).wf = true ∧ n.text.size ≤ 9223372036854775807 ∧ (∀ s ∈ n.names, s.size ≤ 9223372036854775807) ∧ ∀ k ∈ n.kids, (Lit.int .i64 k).wf = true

/-- The slices of a node. -/
def NdIn (w : World) (n : Nd) (nv kv : Value) : Prop := Row1 w nv (strs n.names) ∧ Row1 w kv (ints n.kids)
theorem NdIn.ext {w w' : World} {n : Nd} {nv kv : Value} (h : NdIn w n nv kv) (hx : Ext w w') : NdIn w' n nv kv := ⟨h.1.ext hx, h.2.ext hx⟩
/-- A slice of nodes. -/
def Tree (w : World) (v : Value) (ts : List Nd) : Prop := ∃ (ad : Option Addr) (cap : Nat), v = .slice ad ts.length cap ∧ ts.length ≤ cap ∧ cap ≤ 9223372036854775807 ∧
  (0 < ts.length → ∃ b o, ad = some ⟨b, o, none⟩ ∧ b < w.heap.size ∧ ∀ i n, ts[i]? = some n → ∃ nv kv, CellsAt w b (o + i * 7) (n.cells nv kv) ∧ NdIn w n nv kv)
theorem Tree.ext {w w' : World} {v : Value} {ts : List Nd} (h : Tree w v ts) (hx : Ext w w') : Tree w' v ts := by
  obtain ⟨ad, cap, h1, h2, h3, h4⟩ := h
  exact ⟨ad, cap, h1, h2, h3, fun h0 => let ⟨b, o, h5, h6, h7⟩ := h4 h0; ⟨b, o, h5, Nat.lt_of_lt_of_le h6 hx.size, fun i n hi => let ⟨nv, kv, h8, h9⟩ := h7 i n hi; ⟨nv, kv, h8.ext hx, h9.ext hx⟩⟩⟩

def szStrs (l : List ByteArray) (n : Int) : Int := match l with
  | [] => n
  | s :: r => if n < s.size then -1 else szStrs r (n - s.size)
def szNames (l : List ByteArray) (n : Int) : Int := if n < l.length then -1 else szStrs l (n - l.length)
theorem szStrs_step {l : List ByteArray} {k : Nat} {s : ByteArray} (h : l[k]? = some s) (n : Int) : szStrs (l.drop k) n = if n < s.size then -1 else szStrs (l.drop (k + 1)) (n - s.size) := by
  obtain ⟨h1, rfl⟩ := List.getElem?_eq_some_iff.1 h
  rw [List.drop_eq_getElem_cons h1, szStrs]
theorem szStrs_le (l : List ByteArray) : ∀ n : Int, 0 ≤ n → szStrs l n ≤ n ∧ -1 ≤ szStrs l n := by
  induction l with
  | nil => intro n h; simp [szStrs]; omega
  | cons s r ih =>
    intro n h
    simp only [szStrs]
    split
    · omega
    · have := ih (n - s.size) (by omega)
      omega
theorem szNames_le (l : List ByteArray) (n : Int) (h : 0 ≤ n) : szNames l n ≤ n ∧ -1 ≤ szNames l n := by
  unfold szNames
  split
  · omega
  · have := szStrs_le l (n - l.length) (by omega)
    omega
theorem szStringS_vc (l : List ByteArray) (v : Value) (n : Int) (w : World) (hU : Row1 w v (strs l)) (hwf : ∀ s ∈ l, s.size ≤ 9223372036854775807) (h0 : 0 ≤ n) (h1 : n ≤ 1048576) :
    Gives Tryz.prog 71 #[v, .int .i64 n] w (.int .i64 (szNames l n)) := by
  obtain ⟨ad, cap, rfl, hlc, hcm, hat⟩ := hU
  have hlen : (strs l).length = l.length := by simp
  rw [hlen] at hlc hat ⊢
  refine calls_of cx_ok Tryz.func71 Tryz.ntmps71 Tryz.results71 rfl rfl ?_
  repeat (first | refine jC ?_ | refine jN ?_ | refine jS ?_ | refine jR ?_ | refine jT ?_ | refine jB ?_ | refine jX rfl ?_ | refine jY rfl ?_ | refine jK ?_ | refine jD ?_ | refine jE ?_)
  refine ⟨I64.mk (by omega), ?_⟩
  repeat (first | refine jC ?_ | refine jN ?_ | refine jS ?_ | refine jR ?_ | refine jT ?_ | refine jB ?_ | refine jX rfl ?_ | refine jY rfl ?_ | refine jK ?_ | refine jD ?_ | refine jE ?_)
  refine Br.intro (fun h => ?_) (fun h => ?_)
  · repeat (first | refine jC ?_ | refine jN ?_ | refine jS ?_ | refine jR ?_ | refine jT ?_ | refine jB ?_ | refine jX rfl ?_ | refine jY rfl ?_ | refine jK ?_ | refine jD ?_ | refine jE ?_)
    refine EndV.val ?_ (Ext.refl _)
    rw [szNames, if_pos (by have := of_decide_eq_true h; omega)]
  repeat (first | refine jC ?_ | refine jN ?_ | refine jS ?_ | refine jR ?_ | refine jT ?_ | refine jB ?_ | refine jX rfl ?_ | refine jY rfl ?_ | refine jK ?_ | refine jD ?_ | refine jE ?_)
  have hn := of_decide_eq_false h
  refine WpC.loop (α := Nat × Int) (fun x => ⟨[(0, .v (.slice ad l.length cap)), (5, .v (.int .i64 (x.1 : Int))), (1, .v (.int .i64 x.2))], [], w⟩)
    (fun x => x.1 ≤ l.length ∧ 0 ≤ x.2 ∧ x.2 ≤ 1048576 ∧ szStrs (l.drop x.1) x.2 = szStrs l (n - l.length)) (fun x => l.length - x.1) (0, n - l.length) ⟨by omega, by show 0 ≤ n - _; omega, by show n - _ ≤ _; omega, rfl⟩
    ⟨⟨rfl, rfl, rfl, trivial⟩, trivial, trivial, Ext.refl _⟩ ?_
  rintro ⟨k, m⟩ ⟨hk, hm0, hm1, hg⟩
  dsimp only at hk hm0 hm1 hg ⊢
  repeat (first | refine jC ?_ | refine jN ?_ | refine jS ?_ | refine jR ?_ | refine jT ?_ | refine jB ?_ | refine jX rfl ?_ | refine jY rfl ?_ | refine jK ?_ | refine jD ?_ | refine jE ?_)
  refine Br.intro (fun h => ?_) (fun h => ?_)
  · have hlt : k < l.length := by have := of_decide_eq_true h; omega
    obtain ⟨b, o, rfl, hc⟩ := hat (by omega)
    have hu : l[k]? = some l[k] := List.getElem?_eq_getElem hlt
    have hw := hwf _ (List.getElem_mem hlt)
    generalize l[k] = s at hu hw
    repeat (first | refine jC ?_ | refine jN ?_ | refine jS ?_ | refine jR ?_ | refine jT ?_ | refine jB ?_ | refine jX rfl ?_ | refine jY rfl ?_ | refine jK ?_ | refine jD ?_ | refine jE ?_)
    refine Ix.mk k rfl hlt ?_
    repeat (first | refine jC ?_ | refine jN ?_ | refine jS ?_ | refine jR ?_ | refine jT ?_ | refine jB ?_ | refine jX rfl ?_ | refine jY rfl ?_ | refine jK ?_ | refine jD ?_ | refine jE ?_)
    refine Ld.mk (hc.out k _ (strs_get hu)) ?_
    repeat (first | refine jC ?_ | refine jN ?_ | refine jS ?_ | refine jR ?_ | refine jT ?_ | refine jB ?_ | refine jX rfl ?_ | refine jY rfl ?_ | refine jK ?_ | refine jD ?_ | refine jE ?_)
    refine ⟨I64.mk (by omega), ?_⟩
    repeat (first | refine jC ?_ | refine jN ?_ | refine jS ?_ | refine jR ?_ | refine jT ?_ | refine jB ?_ | refine jX rfl ?_ | refine jY rfl ?_ | refine jK ?_ | refine jD ?_ | refine jE ?_)
    rw [szStrs_step hu] at hg
    refine Br.intro (fun h2 => ?_) (fun h2 => ?_)
    · have h2 := of_decide_eq_true h2
      rw [if_pos (by omega)] at hg
      repeat (first | refine jC ?_ | refine jN ?_ | refine jS ?_ | refine jR ?_ | refine jT ?_ | refine jB ?_ | refine jX rfl ?_ | refine jY rfl ?_ | refine jK ?_ | refine jD ?_ | refine jE ?_)
      exact EndV.val (by rw [szNames, if_neg (by omega), ← hg]) (Ext.refl _)
    · have h2 := of_decide_eq_false h2
      rw [if_neg (by omega)] at hg
      repeat (first | refine jC ?_ | refine jN ?_ | refine jS ?_ | refine jR ?_ | refine jT ?_ | refine jB ?_ | refine jX rfl ?_ | refine jY rfl ?_ | refine jK ?_ | refine jD ?_ | refine jE ?_)
      refine ⟨I64.mk (by omega), ?_⟩
      repeat (first | refine jC ?_ | refine jN ?_ | refine jS ?_ | refine jR ?_ | refine jT ?_ | refine jB ?_ | refine jX rfl ?_ | refine jY rfl ?_ | refine jK ?_ | refine jD ?_ | refine jE ?_)
      exact ⟨(k + 1, m - s.size), ⟨hlt, by show 0 ≤ m - _; omega, by show m - _ ≤ _; omega, hg⟩, by show l.length - (k + 1) < l.length - k; omega, ⟨rfl, rfl, rfl, trivial⟩, trivial, trivial, Ext.refl _⟩
  · have hke : k = l.length := by have := of_decide_eq_false h; omega
    subst hke
    rw [List.drop_length, szStrs] at hg
    repeat (first | refine jC ?_ | refine jN ?_ | refine jS ?_ | refine jR ?_ | refine jT ?_ | refine jB ?_ | refine jX rfl ?_ | refine jY rfl ?_ | refine jK ?_ | refine jD ?_ | refine jE ?_)
    exact EndV.val (by rw [szNames, if_neg (by omega), ← hg]) (Ext.refl _)
theorem szIntS_vc (l : List Int) (v : Value) (n : Int) (w : World) (hU : Row1 w v (ints l)) (h0 : 0 ≤ n) (h1 : n ≤ 1048576) :
    Gives Tryz.prog 72 #[v, .int .i64 n] w (.int .i64 (if n < l.length then -1 else n - l.length)) := by
  obtain ⟨ad, cap, rfl, hlc, hcm, hat⟩ := hU
  have hlen : (ints l).length = l.length := by simp
  rw [hlen] at hlc hat ⊢
  refine calls_of cx_ok Tryz.func72 Tryz.ntmps72 Tryz.results72 rfl rfl ?_
  repeat (first | refine jC ?_ | refine jN ?_ | refine jS ?_ | refine jR ?_ | refine jT ?_ | refine jB ?_ | refine jX rfl ?_ | refine jY rfl ?_ | refine jK ?_ | refine jD ?_ | refine jE ?_)
  refine ⟨I64.mk (by omega), ?_⟩
  repeat (first | refine jC ?_ | refine jN ?_ | refine jS ?_ | refine jR ?_ | refine jT ?_ | refine jB ?_ | refine jX rfl ?_ | refine jY rfl ?_ | refine jK ?_ | refine jD ?_ | refine jE ?_)
  refine Br.intro (fun h => ?_) (fun h => ?_)
  · repeat (first | refine jC ?_ | refine jN ?_ | refine jS ?_ | refine jR ?_ | refine jT ?_ | refine jB ?_ | refine jX rfl ?_ | refine jY rfl ?_ | refine jK ?_ | refine jD ?_ | refine jE ?_)
    refine EndV.val ?_ (Ext.refl _)
    rw [if_pos (by have := of_decide_eq_true h; omega)]
  · repeat (first | refine jC ?_ | refine jN ?_ | refine jS ?_ | refine jR ?_ | refine jT ?_ | refine jB ?_ | refine jX rfl ?_ | refine jY rfl ?_ | refine jK ?_ | refine jD ?_ | refine jE ?_)
    refine EndV.val ?_ (Ext.refl _)
    rw [if_neg (by have := of_decide_eq_false h; omega)]
/-- What is left when a node is taken off. -/
def szNd (n : Nd) (m : Int) : Int := if m < n.text.size then -1 else
  let m1 := szNames n.names (m - n.text.size)
  if m1 < 0 then -1 else if m1 < n.kids.length then -1 else m1 - n.kids.length
theorem szNd_le (n : Nd) (m : Int) (h : 0 ≤ m) : szNd n m ≤ m ∧ -1 ≤ szNd n m := by
  unfold szNd
  split
  · omega
  · have := szNames_le n.names (m - n.text.size) (by omega)
    simp only
    split
    · omega
    · split <;> omega
theorem szNode_vc (n : Nd) (nv kv : Value) (m : Int) (w : World) (hN : NdIn w n nv kv) (hwf : n.wf) (h0 : 0 ≤ m) (h1 : m ≤ 1048576) :
    Gives Tryz.prog 27 #[n.val nv kv, .int .i64 m] w (.int .i64 (szNd n m)) := by
  refine calls_of cx_ok Tryz.func27 Tryz.ntmps27 Tryz.results27 rfl rfl ?_
  have hts := hwf.2.2.2.1
  repeat (first | refine jC ?_ | refine jN ?_ | refine jS ?_ | refine jR ?_ | refine jT ?_ | refine jB ?_ | refine jX rfl ?_ | refine jY rfl ?_ | refine jK ?_ | refine jD ?_ | refine jE ?_)
  intro b hb
  repeat (first | refine jC ?_ | refine jN ?_ | refine jS ?_ | refine jR ?_ | refine jT ?_ | refine jB ?_ | refine jX rfl ?_ | refine jY rfl ?_ | refine jK ?_ | refine jD ?_ | refine jE ?_)
  refine ⟨I64.mk (by omega), ?_⟩
  repeat (first | refine jC ?_ | refine jN ?_ | refine jS ?_ | refine jR ?_ | refine jT ?_ | refine jB ?_ | refine jX rfl ?_ | refine jY rfl ?_ | refine jK ?_ | refine jD ?_ | refine jE ?_)
  refine Br.intro (fun h => ?_) (fun h => ?_)
  · repeat (first | refine jC ?_ | refine jN ?_ | refine jS ?_ | refine jR ?_ | refine jT ?_ | refine jB ?_ | refine jX rfl ?_ | refine jY rfl ?_ | refine jK ?_ | refine jD ?_ | refine jE ?_)
    refine EndV.val ?_ (Ext.refl _)
    rw [szNd, if_pos (by have := of_decide_eq_true h; omega)]
  have h := of_decide_eq_false h
  have hle := szNames_le n.names (m - n.text.size) (by omega)
  repeat (first | refine jC ?_ | refine jN ?_ | refine jS ?_ | refine jR ?_ | refine jT ?_ | refine jB ?_ | refine jX rfl ?_ | refine jY rfl ?_ | refine jK ?_ | refine jD ?_ | refine jE ?_)
  refine CallV.val (fun w' hw _ => szStringS_vc n.names nv (m - n.text.size) w' (hN.1.ext hw) hwf.2.2.2.2.1 (by omega) (by omega)) ?_
  repeat (first | refine jC ?_ | refine jN ?_ | refine jS ?_ | refine jR ?_ | refine jT ?_ | refine jB ?_ | refine jX rfl ?_ | refine jY rfl ?_ | refine jK ?_ | refine jD ?_ | refine jE ?_)
  refine Br.intro (fun h2 => ?_) (fun h2 => ?_)
  · repeat (first | refine jC ?_ | refine jN ?_ | refine jS ?_ | refine jR ?_ | refine jT ?_ | refine jB ?_ | refine jX rfl ?_ | refine jY rfl ?_ | refine jK ?_ | refine jD ?_ | refine jE ?_)
    refine EndV.val ?_ (Ext.refl _)
    rw [szNd, if_neg (by omega)]
    simp only
    rw [if_pos (of_decide_eq_true h2)]
  have h2 := of_decide_eq_false h2
  repeat (first | refine jC ?_ | refine jN ?_ | refine jS ?_ | refine jR ?_ | refine jT ?_ | refine jB ?_ | refine jX rfl ?_ | refine jY rfl ?_ | refine jK ?_ | refine jD ?_ | refine jE ?_)
  refine CallV.val (fun w' hw _ => szIntS_vc n.kids kv _ w' (hN.2.ext hw) (by omega) (by omega)) ?_
  repeat (first | refine jC ?_ | refine jN ?_ | refine jS ?_ | refine jR ?_ | refine jT ?_ | refine jB ?_ | refine jX rfl ?_ | refine jY rfl ?_ | refine jK ?_ | refine jD ?_ | refine jE ?_)
  have e : szNd n m = if szNames n.names (m - n.text.size) < n.kids.length then -1 else szNames n.names (m - n.text.size) - n.kids.length := by
    rw [szNd, if_neg (by omega)]
    simp only
    rw [if_neg h2]
  rw [← e]
  refine Br.intro (fun h3 => ?_) (fun h3 => ?_)
  · repeat (first | refine jC ?_ | refine jN ?_ | refine jS ?_ | refine jR ?_ | refine jT ?_ | refine jB ?_ | refine jX rfl ?_ | refine jY rfl ?_ | refine jK ?_ | refine jD ?_ | refine jE ?_)
    have h3 := of_decide_eq_true h3
    refine EndV.val ?_ (Ext.refl _)
    have := szNd_le n m h0
    rw [show szNd n m = -1 by omega]
  · repeat (first | refine jC ?_ | refine jN ?_ | refine jS ?_ | refine jR ?_ | refine jT ?_ | refine jB ?_ | refine jX rfl ?_ | refine jY rfl ?_ | refine jK ?_ | refine jD ?_ | refine jE ?_)
    exact EndV.val rfl (Ext.refl _)
end Go.Proofs.YtbnjjpgacemicaaGreatDoor
