/-
  Contracts: the functions that look for a node and turn nothing.
  Conditions: bounds; the library's variable MaxLen holds some number.
-/
import Derived.Test.YtbnjjpgacemicaaGreatDoorFind
namespace Go.Proofs.YtbnjjpgacemicaaGreatDoor
open Go.RowKit Vc
set_option linter.unusedVariables false
set_option maxHeartbeats 1000000
attribute [local irreducible] WpC WpL WpD WpE WpB CallV QCallV Made AppV Ld LdN Ix EndV I64 MutN Mut CellsAt

theorem find_cases (ts : List Nd) (c : Cr) (s : ByteArray) : (∃ f : Int, findF ts c s = (-1, f) ∧ 1 ≤ f ∧ f ≤ 4) ∨
    (∃ (k : Nat) (n : Nd), findF ts c s = ((k : Int), 0) ∧ ts[k]? = some n ∧ k < ts.length ∧ TreeOk ts ∧ c.ok = true ∧ n.Ok) := by
  have hb := find_bd ts c s
  by_cases h : (findF ts c s).2 = 0
  · obtain ⟨hT, hc, k, hk, hkl⟩ := find_at h
    have hu : ts[k]? = some ts[k] := List.getElem?_eq_getElem hkl
    exact .inr ⟨k, _, Prod.ext hk h, hu, hkl, hT, hc, hT.nodes k _ hu⟩
  · exact .inl ⟨(findF ts c s).2, Prod.ext (find_no h) rfl, by omega, by omega⟩
@[reducible] def strInt (x : ByteArray × Int) : Value := .tuple #[.string x.1, .int .i64 x.2]
def mayAtF (f : Int × Int) (ts : List Nd) (c : Cr) (want : Int) : Int := if inR want 0 7 = false then 1 else if f.2 ≠ 0 then f.2 else match ts[f.1.toNat]? with
  | none => 0
  | some n => if mayN c n want then 0 else 3
def sameF (f g : Int × Int) : Bool := decide (f.2 = 0) && (decide (g.2 = 0) && decide (f.1 = g.1))
def fileF (f : Int × Int) (ts : List Nd) (c : Cr) (want : Int) : Int × Int := if f.2 ≠ 0 then (-1, f.2) else match ts[f.1.toNat]? with
  | none => (-1, 0)
  | some n => if n.folder then (-1, 4) else if mayN c n want then (f.1, 0) else (-1, 3)
def readF (f : Int × Int) (ts : List Nd) : ByteArray × Int := if f.2 ≠ 0 then (⟨#[]⟩, f.2) else match ts[f.1.toNat]? with
  | none => (⟨#[]⟩, 0)
  | some n => (n.text, 0)
/-- The directory above: where, the last name, what goes wrong. -/
structure Abv where
  pos : Int
  nm : ByteArray
  flt : Int
@[reducible] def Abv.v (a : Abv) : Value := .tuple #[.int .i64 a.pos, .string a.nm, .int .i64 a.flt]
noncomputable def abvF (ts : List Nd) (c : Cr) (s : ByteArray) : Abv := match aboveOf s with
  | none => ⟨-1, ⟨#[]⟩, 1⟩
  | some x => if (findF ts c x.1).2 ≠ 0 then ⟨-1, ⟨#[]⟩, (findF ts c x.1).2⟩ else match ts[(findF ts c x.1).1.toNat]? with
    | none => ⟨-1, ⟨#[]⟩, 0⟩
    | some n => if n.folder = false then ⟨-1, ⟨#[]⟩, 4⟩ else if mayN c n 3 then ⟨(findF ts c x.1).1, x.2, 0⟩ else ⟨-1, ⟨#[]⟩, 3⟩
def placeF (a : Abv) (ts : List Nd) : Int × Int := if a.flt ≠ 0 then (-1, a.flt) else match ts[a.pos.toNat]? with
  | none => (-1, 0)
  | some n => if 0 ≤ n.kid a.nm then (-1, 5) else (a.pos, 0)
/-- Does the sticky bit forbid? -/
def stickB (c : Cr) (n m : Nd) : Bool := decide (512 ≤ n.mode) && (!decide (c.acts = 0) && (!decide (c.acts = n.owner) && !decide (c.acts = m.owner)))
def dropF (a : Abv) (ts : List Nd) (c : Cr) (full : Bool) : Int := if a.flt ≠ 0 then a.flt else match ts[a.pos.toNat]? with
  | none => 0
  | some n => if n.kid a.nm < 0 then 2 else match ts[(n.kid a.nm).toNat]? with
    | none => 0
    | some m => if stickB c n m then 3 else if !full && decide (0 < m.names.length) then 7 else 0
theorem abv_cases (ts : List Nd) (c : Cr) (s : ByteArray) : (∃ f : Int, abvF ts c s = ⟨-1, ⟨#[]⟩, f⟩ ∧ 1 ≤ f ∧ f ≤ 4) ∨
    (∃ (k : Nat) (n : Nd) (x : ByteArray × ByteArray), aboveOf s = some x ∧ findF ts c x.1 = ((k : Int), 0) ∧ abvF ts c s = ⟨(k : Int), x.2, 0⟩ ∧ ts[k]? = some n ∧ k < ts.length ∧ TreeOk ts ∧ c.ok = true ∧ n.Ok ∧ n.folder = true ∧ mayN c n 3 = true) := by
  unfold abvF
  cases ho : aboveOf s with
  | none => exact .inl ⟨1, rfl, by omega, by omega⟩
  | some x =>
    simp only
    rcases find_cases ts c x.1 with ⟨f, he, h1, h4⟩ | ⟨k, n, he, hn, hk, hT, hc, hok⟩
    · rw [he]
      refine .inl ⟨f, ?_, h1, h4⟩
      simp only
      rw [if_pos (by omega)]
    · rw [he]
      simp only [Int.toNat_natCast, hn]
      rw [if_neg (by simp)]
      by_cases hf : n.folder = false
      · rw [if_pos hf]; exact .inl ⟨4, rfl, by omega, by omega⟩
      · rw [if_neg hf]
        by_cases hm : mayN c n 3 = true
        · rw [if_pos hm]
          exact .inr ⟨k, n, x, rfl, he, rfl, hn, hk, hT, hc, hok, by simpa using hf, hm⟩
        · rw [if_neg hm]; exact .inl ⟨3, rfl, by omega, by omega⟩
theorem above_size {s : ByteArray} {x : ByteArray × ByteArray} (h : aboveOf s = some x) : x.1.size ≤ 101 ∧ x.2.size ≤ 8 := by
  unfold aboveOf at h
  cases hp : partsOf s with
  | none => rw [hp] at h; cases h
  | some l =>
    rw [hp] at h
    simp only at h
    split at h
    · cases h
    · rename_i h0
      cases h
      have hg := (partsOf_iff.1 hp).1
      refine ⟨?_, ?_⟩
      · have hgt := hg.take (l.length - 1)
        have := congrArg List.length hgt.path
        have hj := join_len hgt.1 (fun h' => hgt.bix (.inr h'))
        simp only [List.length_cons, Array.length_toList] at this
        show (joinB (l.take (l.length - 1))).data.size ≤ 101
        omega
      · have hlt : l.length - 1 < l.length := by omega
        rw [List.getD_eq_getElem?_getD, List.getElem?_eq_getElem hlt, Option.getD_some]
        exact parts_size hp _ (List.getElem_mem hlt)
theorem Ask.of {w : World} {v : Value} {ts : List Nd} {s s' : ByteArray} (h : Ask w v ts s) (h' : s'.size ≤ 1048600) : Ask w v ts s' := ⟨h.tree, h.sized, h.wf, h', h.ml⟩
theorem sticky {m : Int} (h : inR m 0 1023 = true) : decide (bits .and .i64 m 512 = 0) = !decide (512 ≤ m) := by
  obtain ⟨h0, h1⟩ := inR_iff.1 h
  rw [i64_and m 512 h0 (by omega) (by omega) (by omega)]
  obtain ⟨n, rfl⟩ := Int.eq_ofNat_of_zero_le h0
  have key : ∀ k : Fin 1024, (k.val &&& 512 = 0) ↔ ¬ 512 ≤ k.val := by decide +kernel
  have := key ⟨n, by omega⟩
  simp only at this
  rw [Int.toNat_natCast]
  rw [← decide_not, decide_eq_decide]
  show ((n &&& (512 : Int).toNat : Nat) : Int) = 0 ↔ _
  rw [show (512 : Int).toNat = 512 from rfl]
  omega

theorem fileAt_vc (ts : List Nd) (v : Value) (c : Cr) (s : ByteArray) (want : Int) (hw : inR want 0 7 = true) (w : World) (hA : Ask w v ts s) : Gives Tryz.prog 69 #[v, c.v, .string s, .int .i64 want] w (two (fileF (findF ts c s) ts c want)) := by
  have hF := fun w' (hw : Vc.Ext w w') => iFindNode_vc ts v c s w' (hA.ext hw)
  rcases find_cases ts c s with ⟨f, he, h1, h4⟩ | ⟨k, n, he, hn, hk, hT, hc, hok⟩
  · rw [he] at hF ⊢
    refine calls_of cx_ok Tryz.func69 Tryz.ntmps69 Tryz.results69 rfl rfl ?_
    repeat (first | refine jC ?_ | refine jN ?_ | refine jS ?_ | refine jR ?_ | refine jT ?_ | refine jB ?_ | refine jX rfl ?_ | refine jY rfl ?_ | refine jK ?_ | refine jD ?_ | refine jE ?_)
    intro b hb
    repeat (first | refine jC ?_ | refine jN ?_ | refine jS ?_ | refine jR ?_ | refine jT ?_ | refine jB ?_ | refine jX rfl ?_ | refine jY rfl ?_ | refine jK ?_ | refine jD ?_ | refine jE ?_)
    refine CallV.val (fun w' hw _ => hF w' hw) ?_
    repeat (first | refine jC ?_ | refine jN ?_ | refine jS ?_ | refine jR ?_ | refine jT ?_ | refine jB ?_ | refine jX rfl ?_ | refine jY rfl ?_ | refine jK ?_ | refine jD ?_ | refine jE ?_)
    refine Br.yes (by simp; omega) ?_
    repeat (first | refine jC ?_ | refine jN ?_ | refine jS ?_ | refine jR ?_ | refine jT ?_ | refine jB ?_ | refine jX rfl ?_ | refine jY rfl ?_ | refine jK ?_ | refine jD ?_ | refine jE ?_)
    exact EndV.val (by rw [fileF]; simp only; rw [if_pos (by omega)]) (Vc.Ext.refl _)
  · rw [he] at hF ⊢
    obtain ⟨ad, cap, rfl, hat⟩ := hA.tree.node
    obtain ⟨nb, no, nv, kv, rfl, hcn, hN⟩ := hat k n hn
    have e : fileF ((k : Int), 0) ts c want = if n.folder then (-1, 4) else if mayN c n want then ((k : Int), 0) else (-1, 3) := by rw [fileF, if_neg (by simp)]; simp [hn]
    rw [e]
    refine calls_of cx_ok Tryz.func69 Tryz.ntmps69 Tryz.results69 rfl rfl ?_
    repeat (first | refine jC ?_ | refine jN ?_ | refine jS ?_ | refine jR ?_ | refine jT ?_ | refine jB ?_ | refine jX rfl ?_ | refine jY rfl ?_ | refine jK ?_ | refine jD ?_ | refine jE ?_)
    intro b hb
    repeat (first | refine jC ?_ | refine jN ?_ | refine jS ?_ | refine jR ?_ | refine jT ?_ | refine jB ?_ | refine jX rfl ?_ | refine jY rfl ?_ | refine jK ?_ | refine jD ?_ | refine jE ?_)
    refine CallV.val (fun w' hw _ => hF w' hw) ?_
    repeat (first | refine jC ?_ | refine jN ?_ | refine jS ?_ | refine jR ?_ | refine jT ?_ | refine jB ?_ | refine jX rfl ?_ | refine jY rfl ?_ | refine jK ?_ | refine jD ?_ | refine jE ?_)
    refine Ix.mk k rfl hk ?_
    repeat (first | refine jC ?_ | refine jN ?_ | refine jS ?_ | refine jR ?_ | refine jT ?_ | refine jB ?_ | refine jX rfl ?_ | refine jY rfl ?_ | refine jK ?_ | refine jD ?_ | refine jE ?_)
    refine Ld.mk (hcn.out 0 _ rfl) ?_
    repeat (first | refine jC ?_ | refine jN ?_ | refine jS ?_ | refine jR ?_ | refine jT ?_ | refine jB ?_ | refine jX rfl ?_ | refine jY rfl ?_ | refine jK ?_ | refine jD ?_ | refine jE ?_)
    refine Br.intro (fun h => ?_) (fun h => ?_)
    · repeat (first | refine jC ?_ | refine jN ?_ | refine jS ?_ | refine jR ?_ | refine jT ?_ | refine jB ?_ | refine jX rfl ?_ | refine jY rfl ?_ | refine jK ?_ | refine jD ?_ | refine jE ?_)
      exact EndV.val (by rw [if_pos h]) (Vc.Ext.refl _)
    rw [if_neg (by simp [h])]
    repeat (first | refine jC ?_ | refine jN ?_ | refine jS ?_ | refine jR ?_ | refine jT ?_ | refine jB ?_ | refine jX rfl ?_ | refine jY rfl ?_ | refine jK ?_ | refine jD ?_ | refine jE ?_)
    refine WpC.draw (by kernel_rfl) ?_
    repeat (first | refine jC ?_ | refine jN ?_ | refine jS ?_ | refine jR ?_ | refine jT ?_ | refine jB ?_ | refine jX rfl ?_ | refine jY rfl ?_ | refine jK ?_ | refine jD ?_ | refine jE ?_)
    refine Ix.mk k rfl hk ?_
    repeat (first | refine jC ?_ | refine jN ?_ | refine jS ?_ | refine jR ?_ | refine jT ?_ | refine jB ?_ | refine jX rfl ?_ | refine jY rfl ?_ | refine jK ?_ | refine jD ?_ | refine jE ?_)
    refine LdN.mk hcn rfl ?_
    repeat (first | refine jC ?_ | refine jN ?_ | refine jS ?_ | refine jR ?_ | refine jT ?_ | refine jB ?_ | refine jX rfl ?_ | refine jY rfl ?_ | refine jK ?_ | refine jD ?_ | refine jE ?_)
    refine QCallV.val (fun w' _ _ => allows_vc n nv kv c want w' hok hw) ?_
    repeat (first | refine jC ?_ | refine jN ?_ | refine jS ?_ | refine jR ?_ | refine jT ?_ | refine jB ?_ | refine jX rfl ?_ | refine jY rfl ?_ | refine jK ?_ | refine jD ?_ | refine jE ?_)
    refine Br.intro (fun h2 => ?_) (fun h2 => ?_)
    · repeat (first | refine jC ?_ | refine jN ?_ | refine jS ?_ | refine jR ?_ | refine jT ?_ | refine jB ?_ | refine jX rfl ?_ | refine jY rfl ?_ | refine jK ?_ | refine jD ?_ | refine jE ?_)
      exact EndV.val (by rw [if_neg (by simpa using h2)]) (Vc.Ext.refl _)
    · repeat (first | refine jC ?_ | refine jN ?_ | refine jS ?_ | refine jR ?_ | refine jT ?_ | refine jB ?_ | refine jX rfl ?_ | refine jY rfl ?_ | refine jK ?_ | refine jD ?_ | refine jE ?_)
      exact EndV.val (by rw [if_pos (by simpa using h2)]) (Vc.Ext.refl _)
theorem file_cases (ts : List Nd) (c : Cr) (s : ByteArray) (want : Int) : (∃ f : Int, fileF (findF ts c s) ts c want = (-1, f) ∧ 1 ≤ f ∧ f ≤ 4) ∨ (∃ (k : Nat) (n : Nd), findF ts c s = ((k : Int), 0) ∧ fileF (findF ts c s) ts c want = ((k : Int), 0) ∧ ts[k]? = some n ∧ k < ts.length ∧ TreeOk ts ∧ c.ok = true ∧ n.Ok ∧ n.folder = false ∧ mayN c n want = true) := by
  rcases find_cases ts c s with ⟨f, he, h1, h4⟩ | ⟨k, n, he, hn, hk, hT, hc, hok⟩
  · rw [he]
    exact .inl ⟨f, by rw [fileF]; simp only; rw [if_pos (by omega)], h1, h4⟩
  · rw [he]
    have e : fileF ((k : Int), 0) ts c want = if n.folder then (-1, 4) else if mayN c n want then ((k : Int), 0) else (-1, 3) := by rw [fileF, if_neg (by simp)]; simp [hn]
    rw [e]
    by_cases h : n.folder = true
    · rw [if_pos h]; exact .inl ⟨4, rfl, by omega, by omega⟩
    · rw [if_neg h]
      by_cases h2 : mayN c n want = true
      · rw [if_pos h2]; exact .inr ⟨k, n, rfl, rfl, hn, hk, hT, hc, hok, by simpa using h, h2⟩
      · rw [if_neg h2]; exact .inl ⟨3, rfl, by omega, by omega⟩
theorem sReadFile_vc (ts : List Nd) (v : Value) (c : Cr) (s : ByteArray) (w : World) (hA : Ask w v ts s) : Gives Tryz.prog 67 #[v, c.v, .string s] w (strInt (readF (fileF (findF ts c s) ts c 4) ts)) := by
  have hF := fun w' (hw : Vc.Ext w w') => sFindNode_vc ts v c s w' (hA.ext hw)
  rcases find_cases ts c s with ⟨f, he, h1, h4⟩ | ⟨k, n, he, hn, hk, hT, hc, hok⟩
  · rw [he] at hF ⊢
    refine calls_of cx_ok Tryz.func67 Tryz.ntmps67 Tryz.results67 rfl rfl ?_
    repeat (first | refine jC ?_ | refine jN ?_ | refine jS ?_ | refine jR ?_ | refine jT ?_ | refine jB ?_ | refine jX rfl ?_ | refine jY rfl ?_ | refine jK ?_ | refine jD ?_ | refine jE ?_)
    intro b hb
    repeat (first | refine jC ?_ | refine jN ?_ | refine jS ?_ | refine jR ?_ | refine jT ?_ | refine jB ?_ | refine jX rfl ?_ | refine jY rfl ?_ | refine jK ?_ | refine jD ?_ | refine jE ?_)
    refine CallV.val (fun w' hw _ => hF w' hw) ?_
    repeat (first | refine jC ?_ | refine jN ?_ | refine jS ?_ | refine jR ?_ | refine jT ?_ | refine jB ?_ | refine jX rfl ?_ | refine jY rfl ?_ | refine jK ?_ | refine jD ?_ | refine jE ?_)
    refine Br.yes (by simp; omega) ?_
    repeat (first | refine jC ?_ | refine jN ?_ | refine jS ?_ | refine jR ?_ | refine jT ?_ | refine jB ?_ | refine jX rfl ?_ | refine jY rfl ?_ | refine jK ?_ | refine jD ?_ | refine jE ?_)
    have e3 : fileF (-1, f) ts c 4 = (-1, f) := by rw [fileF]; simp only; rw [if_pos (by omega)]
    exact EndV.val (by rw [e3, readF]; simp only; rw [if_pos (by omega)]) (Vc.Ext.refl _)
  · rw [he] at hF ⊢
    obtain ⟨ad, cap, rfl, hat⟩ := hA.tree.node
    obtain ⟨nb, no, nv, kv, rfl, hcn, hN⟩ := hat k n hn
    have e : fileF ((k : Int), 0) ts c 4 = if n.folder then (-1, 4) else if mayN c n 4 then ((k : Int), 0) else (-1, 3) := by rw [fileF, if_neg (by simp)]; simp [hn]
    rw [e]
    refine calls_of cx_ok Tryz.func67 Tryz.ntmps67 Tryz.results67 rfl rfl ?_
    repeat (first | refine jC ?_ | refine jN ?_ | refine jS ?_ | refine jR ?_ | refine jT ?_ | refine jB ?_ | refine jX rfl ?_ | refine jY rfl ?_ | refine jK ?_ | refine jD ?_ | refine jE ?_)
    intro b hb
    repeat (first | refine jC ?_ | refine jN ?_ | refine jS ?_ | refine jR ?_ | refine jT ?_ | refine jB ?_ | refine jX rfl ?_ | refine jY rfl ?_ | refine jK ?_ | refine jD ?_ | refine jE ?_)
    refine CallV.val (fun w' hw _ => hF w' hw) ?_
    repeat (first | refine jC ?_ | refine jN ?_ | refine jS ?_ | refine jR ?_ | refine jT ?_ | refine jB ?_ | refine jX rfl ?_ | refine jY rfl ?_ | refine jK ?_ | refine jD ?_ | refine jE ?_)
    refine Ix.mk k rfl hk ?_
    repeat (first | refine jC ?_ | refine jN ?_ | refine jS ?_ | refine jR ?_ | refine jT ?_ | refine jB ?_ | refine jX rfl ?_ | refine jY rfl ?_ | refine jK ?_ | refine jD ?_ | refine jE ?_)
    refine Ld.mk (hcn.out 0 _ rfl) ?_
    repeat (first | refine jC ?_ | refine jN ?_ | refine jS ?_ | refine jR ?_ | refine jT ?_ | refine jB ?_ | refine jX rfl ?_ | refine jY rfl ?_ | refine jK ?_ | refine jD ?_ | refine jE ?_)
    refine Br.intro (fun h => ?_) (fun h => ?_)
    · repeat (first | refine jC ?_ | refine jN ?_ | refine jS ?_ | refine jR ?_ | refine jT ?_ | refine jB ?_ | refine jX rfl ?_ | refine jY rfl ?_ | refine jK ?_ | refine jD ?_ | refine jE ?_)
      exact EndV.val (by rw [if_pos h]; rfl) (Vc.Ext.refl _)
    rw [if_neg (by simp [h])]
    repeat (first | refine jC ?_ | refine jN ?_ | refine jS ?_ | refine jR ?_ | refine jT ?_ | refine jB ?_ | refine jX rfl ?_ | refine jY rfl ?_ | refine jK ?_ | refine jD ?_ | refine jE ?_)
    refine WpC.draw (by kernel_rfl) ?_
    repeat (first | refine jC ?_ | refine jN ?_ | refine jS ?_ | refine jR ?_ | refine jT ?_ | refine jB ?_ | refine jX rfl ?_ | refine jY rfl ?_ | refine jK ?_ | refine jD ?_ | refine jE ?_)
    refine Ix.mk k rfl hk ?_
    repeat (first | refine jC ?_ | refine jN ?_ | refine jS ?_ | refine jR ?_ | refine jT ?_ | refine jB ?_ | refine jX rfl ?_ | refine jY rfl ?_ | refine jK ?_ | refine jD ?_ | refine jE ?_)
    refine LdN.mk hcn rfl ?_
    repeat (first | refine jC ?_ | refine jN ?_ | refine jS ?_ | refine jR ?_ | refine jT ?_ | refine jB ?_ | refine jX rfl ?_ | refine jY rfl ?_ | refine jK ?_ | refine jD ?_ | refine jE ?_)
    refine QCallV.val (fun w' _ _ => sMay_vc n nv kv c 4 w' hc hok (by decide)) ?_
    repeat (first | refine jC ?_ | refine jN ?_ | refine jS ?_ | refine jR ?_ | refine jT ?_ | refine jB ?_ | refine jX rfl ?_ | refine jY rfl ?_ | refine jK ?_ | refine jD ?_ | refine jE ?_)
    refine Br.intro (fun h2 => ?_) (fun h2 => ?_)
    · repeat (first | refine jC ?_ | refine jN ?_ | refine jS ?_ | refine jR ?_ | refine jT ?_ | refine jB ?_ | refine jX rfl ?_ | refine jY rfl ?_ | refine jK ?_ | refine jD ?_ | refine jE ?_)
      exact EndV.val (by rw [if_neg (by simpa using h2)]; rfl) (Vc.Ext.refl _)
    rw [if_pos (by simpa using h2)]
    have e2 : readF ((k : Int), 0) ts = (n.text, 0) := by rw [readF, if_neg (by simp)]; simp [hn]
    rw [e2]
    repeat (first | refine jC ?_ | refine jN ?_ | refine jS ?_ | refine jR ?_ | refine jT ?_ | refine jB ?_ | refine jX rfl ?_ | refine jY rfl ?_ | refine jK ?_ | refine jD ?_ | refine jE ?_)
    refine Ix.mk k rfl hk ?_
    repeat (first | refine jC ?_ | refine jN ?_ | refine jS ?_ | refine jR ?_ | refine jT ?_ | refine jB ?_ | refine jX rfl ?_ | refine jY rfl ?_ | refine jK ?_ | refine jD ?_ | refine jE ?_)
    refine Ld.mk (hcn.out 4 _ rfl) ?_
    repeat (first | refine jC ?_ | refine jN ?_ | refine jS ?_ | refine jR ?_ | refine jT ?_ | refine jB ?_ | refine jX rfl ?_ | refine jY rfl ?_ | refine jK ?_ | refine jD ?_ | refine jE ?_)
    exact EndV.val rfl (Vc.Ext.refl _)
theorem folderAbove_vc (ts : List Nd) (v : Value) (c : Cr) (s : ByteArray) (w : World) (hA : Ask w v ts s) : Gives Tryz.prog 36 #[v, c.v, .string s] w (abvF ts c s).v := by
  have hB := fun w' (hw : Vc.Ext w w') => iAboveOf_vc s w' hA.size (hA.ml.ext hw)
  unfold abvF
  cases ho : aboveOf s with
  | none =>
    have hv : aboveV s = .tuple #[.string ⟨#[]⟩, .string ⟨#[]⟩, .bool false] := by rw [aboveV, ho]
    rw [hv] at hB
    refine calls_of cx_ok Tryz.func36 Tryz.ntmps36 Tryz.results36 rfl rfl ?_
    repeat (first | refine jC ?_ | refine jN ?_ | refine jS ?_ | refine jR ?_ | refine jT ?_ | refine jB ?_ | refine jX rfl ?_ | refine jY rfl ?_ | refine jK ?_ | refine jD ?_ | refine jE ?_)
    intro b hb
    repeat (first | refine jC ?_ | refine jN ?_ | refine jS ?_ | refine jR ?_ | refine jT ?_ | refine jB ?_ | refine jX rfl ?_ | refine jY rfl ?_ | refine jK ?_ | refine jD ?_ | refine jE ?_)
    refine CallV.val (fun w' hw _ => hB w' hw) ?_
    repeat (first | refine jC ?_ | refine jN ?_ | refine jS ?_ | refine jR ?_ | refine jT ?_ | refine jB ?_ | refine jX rfl ?_ | refine jY rfl ?_ | refine jK ?_ | refine jD ?_ | refine jE ?_)
    exact EndV.val rfl (Vc.Ext.refl _)
  | some x =>
    have hv : aboveV s = .tuple #[.string x.1, .string x.2, .bool true] := by rw [aboveV, ho]
    rw [hv] at hB
    simp only
    have hF := fun w' (hw : Vc.Ext w w') => iFindNode_vc ts v c x.1 w' ((hA.of (by have := (above_size ho).1; omega)).ext hw)
    rcases find_cases ts c x.1 with ⟨f, he, h1, h4⟩ | ⟨k, n, he, hn, hk, hT, hc, hok⟩
    · rw [he] at hF ⊢
      simp only
      rw [if_pos (by omega)]
      refine calls_of cx_ok Tryz.func36 Tryz.ntmps36 Tryz.results36 rfl rfl ?_
      repeat (first | refine jC ?_ | refine jN ?_ | refine jS ?_ | refine jR ?_ | refine jT ?_ | refine jB ?_ | refine jX rfl ?_ | refine jY rfl ?_ | refine jK ?_ | refine jD ?_ | refine jE ?_)
      intro b hb
      repeat (first | refine jC ?_ | refine jN ?_ | refine jS ?_ | refine jR ?_ | refine jT ?_ | refine jB ?_ | refine jX rfl ?_ | refine jY rfl ?_ | refine jK ?_ | refine jD ?_ | refine jE ?_)
      refine CallV.val (fun w' hw _ => hB w' hw) ?_
      repeat (first | refine jC ?_ | refine jN ?_ | refine jS ?_ | refine jR ?_ | refine jT ?_ | refine jB ?_ | refine jX rfl ?_ | refine jY rfl ?_ | refine jK ?_ | refine jD ?_ | refine jE ?_)
      refine CallV.val (fun w' hw _ => hF w' hw) ?_
      repeat (first | refine jC ?_ | refine jN ?_ | refine jS ?_ | refine jR ?_ | refine jT ?_ | refine jB ?_ | refine jX rfl ?_ | refine jY rfl ?_ | refine jK ?_ | refine jD ?_ | refine jE ?_)
      refine Br.yes (by simp; omega) ?_
      repeat (first | refine jC ?_ | refine jN ?_ | refine jS ?_ | refine jR ?_ | refine jT ?_ | refine jB ?_ | refine jX rfl ?_ | refine jY rfl ?_ | refine jK ?_ | refine jD ?_ | refine jE ?_)
      exact EndV.val rfl (Vc.Ext.refl _)
    · rw [he] at hF ⊢
      simp only [Int.toNat_natCast, hn]
      rw [if_neg (by simp)]
      obtain ⟨ad, cap, rfl, hat⟩ := hA.tree.node
      obtain ⟨nb, no, nv, kv, rfl, hcn, hN⟩ := hat k n hn
      refine calls_of cx_ok Tryz.func36 Tryz.ntmps36 Tryz.results36 rfl rfl ?_
      repeat (first | refine jC ?_ | refine jN ?_ | refine jS ?_ | refine jR ?_ | refine jT ?_ | refine jB ?_ | refine jX rfl ?_ | refine jY rfl ?_ | refine jK ?_ | refine jD ?_ | refine jE ?_)
      intro b hb
      repeat (first | refine jC ?_ | refine jN ?_ | refine jS ?_ | refine jR ?_ | refine jT ?_ | refine jB ?_ | refine jX rfl ?_ | refine jY rfl ?_ | refine jK ?_ | refine jD ?_ | refine jE ?_)
      refine CallV.val (fun w' hw _ => hB w' hw) ?_
      repeat (first | refine jC ?_ | refine jN ?_ | refine jS ?_ | refine jR ?_ | refine jT ?_ | refine jB ?_ | refine jX rfl ?_ | refine jY rfl ?_ | refine jK ?_ | refine jD ?_ | refine jE ?_)
      refine CallV.val (fun w' hw _ => hF w' hw) ?_
      repeat (first | refine jC ?_ | refine jN ?_ | refine jS ?_ | refine jR ?_ | refine jT ?_ | refine jB ?_ | refine jX rfl ?_ | refine jY rfl ?_ | refine jK ?_ | refine jD ?_ | refine jE ?_)
      refine Ix.mk k rfl hk ?_
      repeat (first | refine jC ?_ | refine jN ?_ | refine jS ?_ | refine jR ?_ | refine jT ?_ | refine jB ?_ | refine jX rfl ?_ | refine jY rfl ?_ | refine jK ?_ | refine jD ?_ | refine jE ?_)
      refine Ld.mk (hcn.out 0 _ rfl) ?_
      repeat (first | refine jC ?_ | refine jN ?_ | refine jS ?_ | refine jR ?_ | refine jT ?_ | refine jB ?_ | refine jX rfl ?_ | refine jY rfl ?_ | refine jK ?_ | refine jD ?_ | refine jE ?_)
      refine Br.intro (fun h => ?_) (fun h => ?_)
      · repeat (first | refine jC ?_ | refine jN ?_ | refine jS ?_ | refine jR ?_ | refine jT ?_ | refine jB ?_ | refine jX rfl ?_ | refine jY rfl ?_ | refine jK ?_ | refine jD ?_ | refine jE ?_)
        exact EndV.val (by rw [if_pos (by simpa using h)]) (Vc.Ext.refl _)
      rw [if_neg (by simpa using h)]
      repeat (first | refine jC ?_ | refine jN ?_ | refine jS ?_ | refine jR ?_ | refine jT ?_ | refine jB ?_ | refine jX rfl ?_ | refine jY rfl ?_ | refine jK ?_ | refine jD ?_ | refine jE ?_)
      refine WpC.draw (by kernel_rfl) ?_
      repeat (first | refine jC ?_ | refine jN ?_ | refine jS ?_ | refine jR ?_ | refine jT ?_ | refine jB ?_ | refine jX rfl ?_ | refine jY rfl ?_ | refine jK ?_ | refine jD ?_ | refine jE ?_)
      refine Ix.mk k rfl hk ?_
      repeat (first | refine jC ?_ | refine jN ?_ | refine jS ?_ | refine jR ?_ | refine jT ?_ | refine jB ?_ | refine jX rfl ?_ | refine jY rfl ?_ | refine jK ?_ | refine jD ?_ | refine jE ?_)
      refine LdN.mk hcn rfl ?_
      repeat (first | refine jC ?_ | refine jN ?_ | refine jS ?_ | refine jR ?_ | refine jT ?_ | refine jB ?_ | refine jX rfl ?_ | refine jY rfl ?_ | refine jK ?_ | refine jD ?_ | refine jE ?_)
      refine QCallV.val (fun w' _ _ => allows_vc n nv kv c 3 w' hok (by decide)) ?_
      repeat (first | refine jC ?_ | refine jN ?_ | refine jS ?_ | refine jR ?_ | refine jT ?_ | refine jB ?_ | refine jX rfl ?_ | refine jY rfl ?_ | refine jK ?_ | refine jD ?_ | refine jE ?_)
      refine Br.intro (fun h2 => ?_) (fun h2 => ?_)
      · repeat (first | refine jC ?_ | refine jN ?_ | refine jS ?_ | refine jR ?_ | refine jT ?_ | refine jB ?_ | refine jX rfl ?_ | refine jY rfl ?_ | refine jK ?_ | refine jD ?_ | refine jE ?_)
        exact EndV.val (by rw [if_neg (by simpa using h2)]) (Vc.Ext.refl _)
      · repeat (first | refine jC ?_ | refine jN ?_ | refine jS ?_ | refine jR ?_ | refine jT ?_ | refine jB ?_ | refine jX rfl ?_ | refine jY rfl ?_ | refine jK ?_ | refine jD ?_ | refine jE ?_)
        exact EndV.val (by rw [if_pos (by simpa using h2)]) (Vc.Ext.refl _)
theorem iPlaceFor_vc (ts : List Nd) (v : Value) (c : Cr) (s : ByteArray) (w : World) (hA : Ask w v ts s) : Gives Tryz.prog 48 #[v, c.v, .string s] w (two (placeF (abvF ts c s) ts)) := by
  have hF := fun w' (hw : Vc.Ext w w') => folderAbove_vc ts v c s w' (hA.ext hw)
  rcases abv_cases ts c s with ⟨f, he, h1, h4⟩ | ⟨k, n, x, hab, hfi, he, hn, hk, hT, hc, hok, hfo, hma⟩
  · rw [he] at hF ⊢
    refine calls_of cx_ok Tryz.func48 Tryz.ntmps48 Tryz.results48 rfl rfl ?_
    repeat (first | refine jC ?_ | refine jN ?_ | refine jS ?_ | refine jR ?_ | refine jT ?_ | refine jB ?_ | refine jX rfl ?_ | refine jY rfl ?_ | refine jK ?_ | refine jD ?_ | refine jE ?_)
    intro b hb
    repeat (first | refine jC ?_ | refine jN ?_ | refine jS ?_ | refine jR ?_ | refine jT ?_ | refine jB ?_ | refine jX rfl ?_ | refine jY rfl ?_ | refine jK ?_ | refine jD ?_ | refine jE ?_)
    refine CallV.val (fun w' hw _ => hF w' hw) ?_
    repeat (first | refine jC ?_ | refine jN ?_ | refine jS ?_ | refine jR ?_ | refine jT ?_ | refine jB ?_ | refine jX rfl ?_ | refine jY rfl ?_ | refine jK ?_ | refine jD ?_ | refine jE ?_)
    refine Br.yes (by simp; omega) ?_
    repeat (first | refine jC ?_ | refine jN ?_ | refine jS ?_ | refine jR ?_ | refine jT ?_ | refine jB ?_ | refine jX rfl ?_ | refine jY rfl ?_ | refine jK ?_ | refine jD ?_ | refine jE ?_)
    exact EndV.val (by rw [placeF]; simp only; rw [if_pos (by omega)]) (Vc.Ext.refl _)
  · rw [he] at hF ⊢
    obtain ⟨ad, cap, rfl, hat⟩ := hA.tree.node
    obtain ⟨nb, no, nv, kv, rfl, hcn, hN⟩ := hat k n hn
    have hsz := hA.sized.at hn
    have e : placeF ⟨(k : Int), x.2, 0⟩ ts = if 0 ≤ n.kid x.2 then (-1, 5) else ((k : Int), 0) := by rw [placeF, if_neg (by simp)]; simp [hn]
    rw [e]
    refine calls_of cx_ok Tryz.func48 Tryz.ntmps48 Tryz.results48 rfl rfl ?_
    repeat (first | refine jC ?_ | refine jN ?_ | refine jS ?_ | refine jR ?_ | refine jT ?_ | refine jB ?_ | refine jX rfl ?_ | refine jY rfl ?_ | refine jK ?_ | refine jD ?_ | refine jE ?_)
    intro b hb
    repeat (first | refine jC ?_ | refine jN ?_ | refine jS ?_ | refine jR ?_ | refine jT ?_ | refine jB ?_ | refine jX rfl ?_ | refine jY rfl ?_ | refine jK ?_ | refine jD ?_ | refine jE ?_)
    refine CallV.val (fun w' hw _ => hF w' hw) ?_
    repeat (first | refine jC ?_ | refine jN ?_ | refine jS ?_ | refine jR ?_ | refine jT ?_ | refine jB ?_ | refine jX rfl ?_ | refine jY rfl ?_ | refine jK ?_ | refine jD ?_ | refine jE ?_)
    refine Ix.mk k rfl hk ?_
    repeat (first | refine jC ?_ | refine jN ?_ | refine jS ?_ | refine jR ?_ | refine jT ?_ | refine jB ?_ | refine jX rfl ?_ | refine jY rfl ?_ | refine jK ?_ | refine jD ?_ | refine jE ?_)
    refine LdN.mk hcn rfl ?_
    repeat (first | refine jC ?_ | refine jN ?_ | refine jS ?_ | refine jR ?_ | refine jT ?_ | refine jB ?_ | refine jX rfl ?_ | refine jY rfl ?_ | refine jK ?_ | refine jD ?_ | refine jE ?_)
    refine CallV.val (fun w' hw _ => iKid_vc n nv kv x.2 w' (hN.ext hw) hok.asc' hsz.1 hok.len) ?_
    repeat (first | refine jC ?_ | refine jN ?_ | refine jS ?_ | refine jR ?_ | refine jT ?_ | refine jB ?_ | refine jX rfl ?_ | refine jY rfl ?_ | refine jK ?_ | refine jD ?_ | refine jE ?_)
    refine Br.intro (fun h => ?_) (fun h => ?_)
    · repeat (first | refine jC ?_ | refine jN ?_ | refine jS ?_ | refine jR ?_ | refine jT ?_ | refine jB ?_ | refine jX rfl ?_ | refine jY rfl ?_ | refine jK ?_ | refine jD ?_ | refine jE ?_)
      exact EndV.val (by rw [if_pos (of_decide_eq_true h)]) (Vc.Ext.refl _)
    · repeat (first | refine jC ?_ | refine jN ?_ | refine jS ?_ | refine jR ?_ | refine jT ?_ | refine jB ?_ | refine jX rfl ?_ | refine jY rfl ?_ | refine jK ?_ | refine jD ?_ | refine jE ?_)
      exact EndV.val (by rw [if_neg (of_decide_eq_false h)]) (Vc.Ext.refl _)
theorem sPlaceFor_vc (ts : List Nd) (v : Value) (c : Cr) (s : ByteArray) (w : World) (hA : Ask w v ts s) : Gives Tryz.prog 45 #[v, c.v, .string s] w (two (placeF (abvF ts c s) ts)) := by
  have hB := fun w' (hw : Vc.Ext w w') => sAboveOf_vc s w' hA.size
  cases ho : aboveOf s with
  | none =>
    have hv : aboveV s = .tuple #[.string ⟨#[]⟩, .string ⟨#[]⟩, .bool false] := by rw [aboveV, ho]
    rw [hv] at hB
    have hab : abvF ts c s = ⟨-1, ⟨#[]⟩, 1⟩ := by rw [abvF, ho]
    rw [hab]
    refine calls_of cx_ok Tryz.func45 Tryz.ntmps45 Tryz.results45 rfl rfl ?_
    repeat (first | refine jC ?_ | refine jN ?_ | refine jS ?_ | refine jR ?_ | refine jT ?_ | refine jB ?_ | refine jX rfl ?_ | refine jY rfl ?_ | refine jK ?_ | refine jD ?_ | refine jE ?_)
    intro b hb
    repeat (first | refine jC ?_ | refine jN ?_ | refine jS ?_ | refine jR ?_ | refine jT ?_ | refine jB ?_ | refine jX rfl ?_ | refine jY rfl ?_ | refine jK ?_ | refine jD ?_ | refine jE ?_)
    refine CallV.val (fun w' hw _ => hB w' hw) ?_
    repeat (first | refine jC ?_ | refine jN ?_ | refine jS ?_ | refine jR ?_ | refine jT ?_ | refine jB ?_ | refine jX rfl ?_ | refine jY rfl ?_ | refine jK ?_ | refine jD ?_ | refine jE ?_)
    refine CallV.val (fun w' hw _ => sFindNode_vc ts v c ⟨#[]⟩ w' ((hA.of (by decide)).ext hw)) ?_
    repeat (first | refine jC ?_ | refine jN ?_ | refine jS ?_ | refine jR ?_ | refine jT ?_ | refine jB ?_ | refine jX rfl ?_ | refine jY rfl ?_ | refine jK ?_ | refine jD ?_ | refine jE ?_)
    exact EndV.val rfl (Vc.Ext.refl _)
  | some x =>
    have hv : aboveV s = .tuple #[.string x.1, .string x.2, .bool true] := by rw [aboveV, ho]
    rw [hv] at hB
    have hF := fun w' (hw : Vc.Ext w w') => sFindNode_vc ts v c x.1 w' ((hA.of (by have := (above_size ho).1; omega)).ext hw)
    rcases find_cases ts c x.1 with ⟨f, he, h1, h4⟩ | ⟨k, n, he, hn, hk, hT, hc, hok⟩
    · have hab : abvF ts c s = ⟨-1, ⟨#[]⟩, f⟩ := by rw [abvF, ho]; simp only; rw [he]; simp only; rw [if_pos (by omega)]
      rw [hab]
      rw [he] at hF
      refine calls_of cx_ok Tryz.func45 Tryz.ntmps45 Tryz.results45 rfl rfl ?_
      repeat (first | refine jC ?_ | refine jN ?_ | refine jS ?_ | refine jR ?_ | refine jT ?_ | refine jB ?_ | refine jX rfl ?_ | refine jY rfl ?_ | refine jK ?_ | refine jD ?_ | refine jE ?_)
      intro b hb
      repeat (first | refine jC ?_ | refine jN ?_ | refine jS ?_ | refine jR ?_ | refine jT ?_ | refine jB ?_ | refine jX rfl ?_ | refine jY rfl ?_ | refine jK ?_ | refine jD ?_ | refine jE ?_)
      refine CallV.val (fun w' hw _ => hB w' hw) ?_
      repeat (first | refine jC ?_ | refine jN ?_ | refine jS ?_ | refine jR ?_ | refine jT ?_ | refine jB ?_ | refine jX rfl ?_ | refine jY rfl ?_ | refine jK ?_ | refine jD ?_ | refine jE ?_)
      refine CallV.val (fun w' hw _ => hF w' hw) ?_
      repeat (first | refine jC ?_ | refine jN ?_ | refine jS ?_ | refine jR ?_ | refine jT ?_ | refine jB ?_ | refine jX rfl ?_ | refine jY rfl ?_ | refine jK ?_ | refine jD ?_ | refine jE ?_)
      refine Br.yes (by simp; omega) ?_
      repeat (first | refine jC ?_ | refine jN ?_ | refine jS ?_ | refine jR ?_ | refine jT ?_ | refine jB ?_ | refine jX rfl ?_ | refine jY rfl ?_ | refine jK ?_ | refine jD ?_ | refine jE ?_)
      exact EndV.val (by rw [placeF]; simp only; rw [if_pos (by omega)]) (Vc.Ext.refl _)
    · rw [he] at hF
      obtain ⟨ad, cap, rfl, hat⟩ := hA.tree.node
      obtain ⟨nb, no, nv, kv, rfl, hcn, hN⟩ := hat k n hn
      have hsz := hA.sized.at hn
      refine calls_of cx_ok Tryz.func45 Tryz.ntmps45 Tryz.results45 rfl rfl ?_
      repeat (first | refine jC ?_ | refine jN ?_ | refine jS ?_ | refine jR ?_ | refine jT ?_ | refine jB ?_ | refine jX rfl ?_ | refine jY rfl ?_ | refine jK ?_ | refine jD ?_ | refine jE ?_)
      intro b hb
      repeat (first | refine jC ?_ | refine jN ?_ | refine jS ?_ | refine jR ?_ | refine jT ?_ | refine jB ?_ | refine jX rfl ?_ | refine jY rfl ?_ | refine jK ?_ | refine jD ?_ | refine jE ?_)
      refine CallV.val (fun w' hw _ => hB w' hw) ?_
      repeat (first | refine jC ?_ | refine jN ?_ | refine jS ?_ | refine jR ?_ | refine jT ?_ | refine jB ?_ | refine jX rfl ?_ | refine jY rfl ?_ | refine jK ?_ | refine jD ?_ | refine jE ?_)
      refine CallV.val (fun w' hw _ => hF w' hw) ?_
      repeat (first | refine jC ?_ | refine jN ?_ | refine jS ?_ | refine jR ?_ | refine jT ?_ | refine jB ?_ | refine jX rfl ?_ | refine jY rfl ?_ | refine jK ?_ | refine jD ?_ | refine jE ?_)
      refine Ix.mk k rfl hk ?_
      repeat (first | refine jC ?_ | refine jN ?_ | refine jS ?_ | refine jR ?_ | refine jT ?_ | refine jB ?_ | refine jX rfl ?_ | refine jY rfl ?_ | refine jK ?_ | refine jD ?_ | refine jE ?_)
      refine Ld.mk (hcn.out 0 _ rfl) ?_
      repeat (first | refine jC ?_ | refine jN ?_ | refine jS ?_ | refine jR ?_ | refine jT ?_ | refine jB ?_ | refine jX rfl ?_ | refine jY rfl ?_ | refine jK ?_ | refine jD ?_ | refine jE ?_)
      refine Br.intro (fun h => ?_) (fun h => ?_)
      · have hab : abvF ts c s = ⟨-1, ⟨#[]⟩, 4⟩ := by rw [abvF, ho]; simp only; rw [he]; simp only [Int.toNat_natCast, hn]; rw [if_neg (by simp), if_pos (by simpa using h)]
        rw [hab]
        repeat (first | refine jC ?_ | refine jN ?_ | refine jS ?_ | refine jR ?_ | refine jT ?_ | refine jB ?_ | refine jX rfl ?_ | refine jY rfl ?_ | refine jK ?_ | refine jD ?_ | refine jE ?_)
        exact EndV.val (by rw [placeF]; simp only; rw [if_pos (by simp)]) (Vc.Ext.refl _)
      repeat (first | refine jC ?_ | refine jN ?_ | refine jS ?_ | refine jR ?_ | refine jT ?_ | refine jB ?_ | refine jX rfl ?_ | refine jY rfl ?_ | refine jK ?_ | refine jD ?_ | refine jE ?_)
      refine WpC.draw (by kernel_rfl) ?_
      repeat (first | refine jC ?_ | refine jN ?_ | refine jS ?_ | refine jR ?_ | refine jT ?_ | refine jB ?_ | refine jX rfl ?_ | refine jY rfl ?_ | refine jK ?_ | refine jD ?_ | refine jE ?_)
      refine Ix.mk k rfl hk ?_
      repeat (first | refine jC ?_ | refine jN ?_ | refine jS ?_ | refine jR ?_ | refine jT ?_ | refine jB ?_ | refine jX rfl ?_ | refine jY rfl ?_ | refine jK ?_ | refine jD ?_ | refine jE ?_)
      refine LdN.mk hcn rfl ?_
      repeat (first | refine jC ?_ | refine jN ?_ | refine jS ?_ | refine jR ?_ | refine jT ?_ | refine jB ?_ | refine jX rfl ?_ | refine jY rfl ?_ | refine jK ?_ | refine jD ?_ | refine jE ?_)
      refine QCallV.val (fun w' _ _ => sMay_vc n nv kv c 3 w' hc hok (by decide)) ?_
      repeat (first | refine jC ?_ | refine jN ?_ | refine jS ?_ | refine jR ?_ | refine jT ?_ | refine jB ?_ | refine jX rfl ?_ | refine jY rfl ?_ | refine jK ?_ | refine jD ?_ | refine jE ?_)
      refine Br.intro (fun h2 => ?_) (fun h2 => ?_)
      · have hab : abvF ts c s = ⟨-1, ⟨#[]⟩, 3⟩ := by rw [abvF, ho]; simp only; rw [he]; simp only [Int.toNat_natCast, hn]; rw [if_neg (by simp), if_neg (by simpa using h), if_neg (by simpa using h2)]
        rw [hab]
        repeat (first | refine jC ?_ | refine jN ?_ | refine jS ?_ | refine jR ?_ | refine jT ?_ | refine jB ?_ | refine jX rfl ?_ | refine jY rfl ?_ | refine jK ?_ | refine jD ?_ | refine jE ?_)
        exact EndV.val (by rw [placeF]; simp only; rw [if_pos (by simp)]) (Vc.Ext.refl _)
      have hab : abvF ts c s = ⟨(k : Int), x.2, 0⟩ := by rw [abvF, ho]; simp only; rw [he]; simp only [Int.toNat_natCast, hn]; rw [if_neg (by simp), if_neg (by simpa using h), if_pos (by simpa using h2)]
      rw [hab]
      repeat (first | refine jC ?_ | refine jN ?_ | refine jS ?_ | refine jR ?_ | refine jT ?_ | refine jB ?_ | refine jX rfl ?_ | refine jY rfl ?_ | refine jK ?_ | refine jD ?_ | refine jE ?_)
      have e : placeF ⟨(k : Int), x.2, 0⟩ ts = if 0 ≤ n.kid x.2 then (-1, 5) else ((k : Int), 0) := by rw [placeF, if_neg (by simp)]; simp [hn]
      rw [e]
      refine Ix.mk k rfl hk ?_
      repeat (first | refine jC ?_ | refine jN ?_ | refine jS ?_ | refine jR ?_ | refine jT ?_ | refine jB ?_ | refine jX rfl ?_ | refine jY rfl ?_ | refine jK ?_ | refine jD ?_ | refine jE ?_)
      refine LdN.mk hcn rfl ?_
      repeat (first | refine jC ?_ | refine jN ?_ | refine jS ?_ | refine jR ?_ | refine jT ?_ | refine jB ?_ | refine jX rfl ?_ | refine jY rfl ?_ | refine jK ?_ | refine jD ?_ | refine jE ?_)
      refine CallV.val (fun w' hw _ => sKid_vc n nv kv x.2 w' (hN.ext hw) hsz.1 hok.len) ?_
      repeat (first | refine jC ?_ | refine jN ?_ | refine jS ?_ | refine jR ?_ | refine jT ?_ | refine jB ?_ | refine jX rfl ?_ | refine jY rfl ?_ | refine jK ?_ | refine jD ?_ | refine jE ?_)
      refine Br.intro (fun h3 => ?_) (fun h3 => ?_)
      · repeat (first | refine jC ?_ | refine jN ?_ | refine jS ?_ | refine jR ?_ | refine jT ?_ | refine jB ?_ | refine jX rfl ?_ | refine jY rfl ?_ | refine jK ?_ | refine jD ?_ | refine jE ?_)
        exact EndV.val (by rw [if_pos (of_decide_eq_true h3)]) (Vc.Ext.refl _)
      · repeat (first | refine jC ?_ | refine jN ?_ | refine jS ?_ | refine jR ?_ | refine jT ?_ | refine jB ?_ | refine jX rfl ?_ | refine jY rfl ?_ | refine jK ?_ | refine jD ?_ | refine jE ?_)
        exact EndV.val (by rw [if_neg (of_decide_eq_false h3)]) (Vc.Ext.refl _)
theorem stick_no1 {c : Cr} {n m : Nd} (h : decide (512 ≤ n.mode) = false) : stickB c n m = false := by rw [stickB, h]; rfl
theorem stick_no2 {c : Cr} {n m : Nd} (h : (!decide (c.acts = 0)) = false) : stickB c n m = false := by rw [stickB, h]; simp
theorem stick_no3 {c : Cr} {n m : Nd} (h : (!decide (c.acts = n.owner)) = false) : stickB c n m = false := by rw [stickB, h]; simp
theorem stick_no4 {c : Cr} {n m : Nd} (h : (!decide (c.acts = m.owner)) = false) : stickB c n m = false := by rw [stickB, h]; simp
theorem stick_yes {c : Cr} {n m : Nd} (h1 : decide (512 ≤ n.mode) = true) (h2 : (!decide (c.acts = 0)) = true) (h3 : (!decide (c.acts = n.owner)) = true) (h4 : (!decide (c.acts = m.owner)) = true) : stickB c n m = true := by rw [stickB, h1, h2, h3, h4]; rfl
theorem dropF_kid {ts : List Nd} {c : Cr} {k j : Nat} {n m : Nd} {nm : ByteArray} (full : Bool) (hn : ts[k]? = some n) (hj : n.kid nm = (j : Int)) (hm : ts[j]? = some m) :
    dropF ⟨(k : Int), nm, 0⟩ ts c full = if stickB c n m then 3 else if !full && decide (0 < m.names.length) then 7 else 0 := by
  rw [dropF, if_neg (by simp)]
  simp only [Int.toNat_natCast, hn]
  rw [if_neg (by omega), hj, Int.toNat_natCast, hm]
theorem dropF_none {ts : List Nd} {c : Cr} {k : Nat} {n : Nd} {nm : ByteArray} (full : Bool) (hn : ts[k]? = some n) (hj : n.kid nm < 0) : dropF ⟨(k : Int), nm, 0⟩ ts c full = 2 := by
  rw [dropF, if_neg (by simp)]
  simp only [Int.toNat_natCast, hn]
  rw [if_pos hj]
theorem mayDrop_vc (ts : List Nd) (v : Value) (c : Cr) (s : ByteArray) (full : Bool) (w : World) (hA : Ask w v ts s) : Gives Tryz.prog 62 #[v, c.v, .string s, .bool full] w (.int .i64 (dropF (abvF ts c s) ts c full)) := by
  have hF := fun w' (hw : Vc.Ext w w') => folderAbove_vc ts v c s w' (hA.ext hw)
  rcases abv_cases ts c s with ⟨f, he, h1, h4⟩ | ⟨k, n, x, hab, hfi, he, hn, hk, hT, hc, hok, hfo, hma⟩
  · rw [he] at hF ⊢
    refine calls_of cx_ok Tryz.func62 Tryz.ntmps62 Tryz.results62 rfl rfl ?_
    repeat (first | refine jC ?_ | refine jN ?_ | refine jS ?_ | refine jR ?_ | refine jT ?_ | refine jB ?_ | refine jX rfl ?_ | refine jY rfl ?_ | refine jK ?_ | refine jD ?_ | refine jE ?_)
    intro b hb
    repeat (first | refine jC ?_ | refine jN ?_ | refine jS ?_ | refine jR ?_ | refine jT ?_ | refine jB ?_ | refine jX rfl ?_ | refine jY rfl ?_ | refine jK ?_ | refine jD ?_ | refine jE ?_)
    refine CallV.val (fun w' hw _ => hF w' hw) ?_
    repeat (first | refine jC ?_ | refine jN ?_ | refine jS ?_ | refine jR ?_ | refine jT ?_ | refine jB ?_ | refine jX rfl ?_ | refine jY rfl ?_ | refine jK ?_ | refine jD ?_ | refine jE ?_)
    refine Br.yes (by simp; omega) ?_
    repeat (first | refine jC ?_ | refine jN ?_ | refine jS ?_ | refine jR ?_ | refine jT ?_ | refine jB ?_ | refine jX rfl ?_ | refine jY rfl ?_ | refine jK ?_ | refine jD ?_ | refine jE ?_)
    exact EndV.val (by rw [dropF]; simp only; rw [if_pos (by omega)]) (Vc.Ext.refl _)
  · rw [he] at hF ⊢
    obtain ⟨ad, cap, rfl, hat⟩ := hA.tree.node
    obtain ⟨nb, no, nv, kv, rfl, hcn, hN⟩ := hat k n hn
    have hsz := hA.sized.at hn
    refine calls_of cx_ok Tryz.func62 Tryz.ntmps62 Tryz.results62 rfl rfl ?_
    repeat (first | refine jC ?_ | refine jN ?_ | refine jS ?_ | refine jR ?_ | refine jT ?_ | refine jB ?_ | refine jX rfl ?_ | refine jY rfl ?_ | refine jK ?_ | refine jD ?_ | refine jE ?_)
    intro b hb
    repeat (first | refine jC ?_ | refine jN ?_ | refine jS ?_ | refine jR ?_ | refine jT ?_ | refine jB ?_ | refine jX rfl ?_ | refine jY rfl ?_ | refine jK ?_ | refine jD ?_ | refine jE ?_)
    refine CallV.val (fun w' hw _ => hF w' hw) ?_
    repeat (first | refine jC ?_ | refine jN ?_ | refine jS ?_ | refine jR ?_ | refine jT ?_ | refine jB ?_ | refine jX rfl ?_ | refine jY rfl ?_ | refine jK ?_ | refine jD ?_ | refine jE ?_)
    refine Ix.mk k rfl hk ?_
    repeat (first | refine jC ?_ | refine jN ?_ | refine jS ?_ | refine jR ?_ | refine jT ?_ | refine jB ?_ | refine jX rfl ?_ | refine jY rfl ?_ | refine jK ?_ | refine jD ?_ | refine jE ?_)
    refine LdN.mk hcn rfl ?_
    repeat (first | refine jC ?_ | refine jN ?_ | refine jS ?_ | refine jR ?_ | refine jT ?_ | refine jB ?_ | refine jX rfl ?_ | refine jY rfl ?_ | refine jK ?_ | refine jD ?_ | refine jE ?_)
    refine CallV.val (fun w' hw _ => iKid_vc n nv kv x.2 w' (hN.ext hw) hok.asc' hsz.1 hok.len) ?_
    repeat (first | refine jC ?_ | refine jN ?_ | refine jS ?_ | refine jR ?_ | refine jT ?_ | refine jB ?_ | refine jX rfl ?_ | refine jY rfl ?_ | refine jK ?_ | refine jD ?_ | refine jE ?_)
    refine Br.intro (fun h5 => ?_) (fun h5 => ?_)
    · rw [dropF_none full hn (of_decide_eq_true h5)]
      repeat (first | refine jC ?_ | refine jN ?_ | refine jS ?_ | refine jR ?_ | refine jT ?_ | refine jB ?_ | refine jX rfl ?_ | refine jY rfl ?_ | refine jK ?_ | refine jD ?_ | refine jE ?_)
      exact EndV.val rfl (Vc.Ext.refl _)
    obtain ⟨j, hj, hjl⟩ := kid_in hT hn (of_decide_eq_false h5)
    have hm : ts[j]? = some ts[j] := List.getElem?_eq_getElem hjl
    generalize ts[j] = m at hm
    obtain ⟨mb, mo, mnv, mkv, e7, hcm, hNm⟩ := hat j m hm
    cases e7
    obtain ⟨mad, mcap, rfl, _⟩ := names_open hNm
    rw [hj]
    repeat (first | refine jC ?_ | refine jN ?_ | refine jS ?_ | refine jR ?_ | refine jT ?_ | refine jB ?_ | refine jX rfl ?_ | refine jY rfl ?_ | refine jK ?_ | refine jD ?_ | refine jE ?_)
    refine WpC.draw (by kernel_rfl) ?_
    repeat (first | refine jC ?_ | refine jN ?_ | refine jS ?_ | refine jR ?_ | refine jT ?_ | refine jB ?_ | refine jX rfl ?_ | refine jY rfl ?_ | refine jK ?_ | refine jD ?_ | refine jE ?_)
    refine Ix.mk k rfl hk ?_
    repeat (first | refine jC ?_ | refine jN ?_ | refine jS ?_ | refine jR ?_ | refine jT ?_ | refine jB ?_ | refine jX rfl ?_ | refine jY rfl ?_ | refine jK ?_ | refine jD ?_ | refine jE ?_)
    refine Ld.mk (hcn.out 3 _ rfl) ?_
    repeat (first | refine jC ?_ | refine jN ?_ | refine jS ?_ | refine jR ?_ | refine jT ?_ | refine jB ?_ | refine jX rfl ?_ | refine jY rfl ?_ | refine jK ?_ | refine jD ?_ | refine jE ?_)
    rw [sticky hok.mod]
    simp only [Bool.not_not]
    refine Br.intro (fun s1 => ?_) (fun s1 => ?_)
    rotate_left
    · repeat (first | refine jC ?_ | refine jN ?_ | refine jS ?_ | refine jR ?_ | refine jT ?_ | refine jB ?_ | refine jX rfl ?_ | refine jY rfl ?_ | refine jK ?_ | refine jD ?_ | refine jE ?_)
      have hst := stick_no1 (c := c) (m := m) s1
      rw [dropF_kid full hn hj hm, if_neg (by simp [hst])]
      repeat (first | refine jC ?_ | refine jN ?_ | refine jS ?_ | refine jR ?_ | refine jT ?_ | refine jB ?_ | refine jX rfl ?_ | refine jY rfl ?_ | refine jK ?_ | refine jD ?_ | refine jE ?_)
      refine Br.intro (fun hf => ?_) (fun hf => ?_)
      · repeat (first | refine jC ?_ | refine jN ?_ | refine jS ?_ | refine jR ?_ | refine jT ?_ | refine jB ?_ | refine jX rfl ?_ | refine jY rfl ?_ | refine jK ?_ | refine jD ?_ | refine jE ?_)
        refine Ix.mk j rfl hjl ?_
        repeat (first | refine jC ?_ | refine jN ?_ | refine jS ?_ | refine jR ?_ | refine jT ?_ | refine jB ?_ | refine jX rfl ?_ | refine jY rfl ?_ | refine jK ?_ | refine jD ?_ | refine jE ?_)
        refine Ld.mk (hcm.out 5 _ rfl) ?_
        repeat (first | refine jC ?_ | refine jN ?_ | refine jS ?_ | refine jR ?_ | refine jT ?_ | refine jB ?_ | refine jX rfl ?_ | refine jY rfl ?_ | refine jK ?_ | refine jD ?_ | refine jE ?_)
        refine Br.intro (fun hl => ?_) (fun hl => ?_)
        · repeat (first | refine jC ?_ | refine jN ?_ | refine jS ?_ | refine jR ?_ | refine jT ?_ | refine jB ?_ | refine jX rfl ?_ | refine jY rfl ?_ | refine jK ?_ | refine jD ?_ | refine jE ?_)
          exact EndV.val (by rw [if_pos (by rw [hf]; simpa using hl)]) (Vc.Ext.refl _)
        · repeat (first | refine jC ?_ | refine jN ?_ | refine jS ?_ | refine jR ?_ | refine jT ?_ | refine jB ?_ | refine jX rfl ?_ | refine jY rfl ?_ | refine jK ?_ | refine jD ?_ | refine jE ?_)
          exact EndV.val (by rw [if_neg (by rw [hf]; simpa using hl)]) (Vc.Ext.refl _)
      · repeat (first | refine jC ?_ | refine jN ?_ | refine jS ?_ | refine jR ?_ | refine jT ?_ | refine jB ?_ | refine jX rfl ?_ | refine jY rfl ?_ | refine jK ?_ | refine jD ?_ | refine jE ?_)
        exact EndV.val (by rw [hf]; rfl) (Vc.Ext.refl _)
    repeat (first | refine jC ?_ | refine jN ?_ | refine jS ?_ | refine jR ?_ | refine jT ?_ | refine jB ?_ | refine jX rfl ?_ | refine jY rfl ?_ | refine jK ?_ | refine jD ?_ | refine jE ?_)
    refine Br.intro (fun s2 => ?_) (fun s2 => ?_)
    rotate_left
    · repeat (first | refine jC ?_ | refine jN ?_ | refine jS ?_ | refine jR ?_ | refine jT ?_ | refine jB ?_ | refine jX rfl ?_ | refine jY rfl ?_ | refine jK ?_ | refine jD ?_ | refine jE ?_)
      have hst := stick_no2 (n := n) (m := m) s2
      rw [dropF_kid full hn hj hm, if_neg (by simp [hst])]
      repeat (first | refine jC ?_ | refine jN ?_ | refine jS ?_ | refine jR ?_ | refine jT ?_ | refine jB ?_ | refine jX rfl ?_ | refine jY rfl ?_ | refine jK ?_ | refine jD ?_ | refine jE ?_)
      refine Br.intro (fun hf => ?_) (fun hf => ?_)
      · repeat (first | refine jC ?_ | refine jN ?_ | refine jS ?_ | refine jR ?_ | refine jT ?_ | refine jB ?_ | refine jX rfl ?_ | refine jY rfl ?_ | refine jK ?_ | refine jD ?_ | refine jE ?_)
        refine Ix.mk j rfl hjl ?_
        repeat (first | refine jC ?_ | refine jN ?_ | refine jS ?_ | refine jR ?_ | refine jT ?_ | refine jB ?_ | refine jX rfl ?_ | refine jY rfl ?_ | refine jK ?_ | refine jD ?_ | refine jE ?_)
        refine Ld.mk (hcm.out 5 _ rfl) ?_
        repeat (first | refine jC ?_ | refine jN ?_ | refine jS ?_ | refine jR ?_ | refine jT ?_ | refine jB ?_ | refine jX rfl ?_ | refine jY rfl ?_ | refine jK ?_ | refine jD ?_ | refine jE ?_)
        refine Br.intro (fun hl => ?_) (fun hl => ?_)
        · repeat (first | refine jC ?_ | refine jN ?_ | refine jS ?_ | refine jR ?_ | refine jT ?_ | refine jB ?_ | refine jX rfl ?_ | refine jY rfl ?_ | refine jK ?_ | refine jD ?_ | refine jE ?_)
          exact EndV.val (by rw [if_pos (by rw [hf]; simpa using hl)]) (Vc.Ext.refl _)
        · repeat (first | refine jC ?_ | refine jN ?_ | refine jS ?_ | refine jR ?_ | refine jT ?_ | refine jB ?_ | refine jX rfl ?_ | refine jY rfl ?_ | refine jK ?_ | refine jD ?_ | refine jE ?_)
          exact EndV.val (by rw [if_neg (by rw [hf]; simpa using hl)]) (Vc.Ext.refl _)
      · repeat (first | refine jC ?_ | refine jN ?_ | refine jS ?_ | refine jR ?_ | refine jT ?_ | refine jB ?_ | refine jX rfl ?_ | refine jY rfl ?_ | refine jK ?_ | refine jD ?_ | refine jE ?_)
        exact EndV.val (by rw [hf]; rfl) (Vc.Ext.refl _)
    repeat (first | refine jC ?_ | refine jN ?_ | refine jS ?_ | refine jR ?_ | refine jT ?_ | refine jB ?_ | refine jX rfl ?_ | refine jY rfl ?_ | refine jK ?_ | refine jD ?_ | refine jE ?_)
    refine Ix.mk k rfl hk ?_
    repeat (first | refine jC ?_ | refine jN ?_ | refine jS ?_ | refine jR ?_ | refine jT ?_ | refine jB ?_ | refine jX rfl ?_ | refine jY rfl ?_ | refine jK ?_ | refine jD ?_ | refine jE ?_)
    refine Ld.mk (hcn.out 1 _ rfl) ?_
    repeat (first | refine jC ?_ | refine jN ?_ | refine jS ?_ | refine jR ?_ | refine jT ?_ | refine jB ?_ | refine jX rfl ?_ | refine jY rfl ?_ | refine jK ?_ | refine jD ?_ | refine jE ?_)
    refine Br.intro (fun s3 => ?_) (fun s3 => ?_)
    rotate_left
    · repeat (first | refine jC ?_ | refine jN ?_ | refine jS ?_ | refine jR ?_ | refine jT ?_ | refine jB ?_ | refine jX rfl ?_ | refine jY rfl ?_ | refine jK ?_ | refine jD ?_ | refine jE ?_)
      have hst := stick_no3 (m := m) s3
      rw [dropF_kid full hn hj hm, if_neg (by simp [hst])]
      repeat (first | refine jC ?_ | refine jN ?_ | refine jS ?_ | refine jR ?_ | refine jT ?_ | refine jB ?_ | refine jX rfl ?_ | refine jY rfl ?_ | refine jK ?_ | refine jD ?_ | refine jE ?_)
      refine Br.intro (fun hf => ?_) (fun hf => ?_)
      · repeat (first | refine jC ?_ | refine jN ?_ | refine jS ?_ | refine jR ?_ | refine jT ?_ | refine jB ?_ | refine jX rfl ?_ | refine jY rfl ?_ | refine jK ?_ | refine jD ?_ | refine jE ?_)
        refine Ix.mk j rfl hjl ?_
        repeat (first | refine jC ?_ | refine jN ?_ | refine jS ?_ | refine jR ?_ | refine jT ?_ | refine jB ?_ | refine jX rfl ?_ | refine jY rfl ?_ | refine jK ?_ | refine jD ?_ | refine jE ?_)
        refine Ld.mk (hcm.out 5 _ rfl) ?_
        repeat (first | refine jC ?_ | refine jN ?_ | refine jS ?_ | refine jR ?_ | refine jT ?_ | refine jB ?_ | refine jX rfl ?_ | refine jY rfl ?_ | refine jK ?_ | refine jD ?_ | refine jE ?_)
        refine Br.intro (fun hl => ?_) (fun hl => ?_)
        · repeat (first | refine jC ?_ | refine jN ?_ | refine jS ?_ | refine jR ?_ | refine jT ?_ | refine jB ?_ | refine jX rfl ?_ | refine jY rfl ?_ | refine jK ?_ | refine jD ?_ | refine jE ?_)
          exact EndV.val (by rw [if_pos (by rw [hf]; simpa using hl)]) (Vc.Ext.refl _)
        · repeat (first | refine jC ?_ | refine jN ?_ | refine jS ?_ | refine jR ?_ | refine jT ?_ | refine jB ?_ | refine jX rfl ?_ | refine jY rfl ?_ | refine jK ?_ | refine jD ?_ | refine jE ?_)
          exact EndV.val (by rw [if_neg (by rw [hf]; simpa using hl)]) (Vc.Ext.refl _)
      · repeat (first | refine jC ?_ | refine jN ?_ | refine jS ?_ | refine jR ?_ | refine jT ?_ | refine jB ?_ | refine jX rfl ?_ | refine jY rfl ?_ | refine jK ?_ | refine jD ?_ | refine jE ?_)
        exact EndV.val (by rw [hf]; rfl) (Vc.Ext.refl _)
    repeat (first | refine jC ?_ | refine jN ?_ | refine jS ?_ | refine jR ?_ | refine jT ?_ | refine jB ?_ | refine jX rfl ?_ | refine jY rfl ?_ | refine jK ?_ | refine jD ?_ | refine jE ?_)
    refine Ix.mk j rfl hjl ?_
    repeat (first | refine jC ?_ | refine jN ?_ | refine jS ?_ | refine jR ?_ | refine jT ?_ | refine jB ?_ | refine jX rfl ?_ | refine jY rfl ?_ | refine jK ?_ | refine jD ?_ | refine jE ?_)
    refine Ld.mk (hcm.out 1 _ rfl) ?_
    repeat (first | refine jC ?_ | refine jN ?_ | refine jS ?_ | refine jR ?_ | refine jT ?_ | refine jB ?_ | refine jX rfl ?_ | refine jY rfl ?_ | refine jK ?_ | refine jD ?_ | refine jE ?_)
    refine Br.intro (fun s4 => ?_) (fun s4 => ?_)
    rotate_left
    · repeat (first | refine jC ?_ | refine jN ?_ | refine jS ?_ | refine jR ?_ | refine jT ?_ | refine jB ?_ | refine jX rfl ?_ | refine jY rfl ?_ | refine jK ?_ | refine jD ?_ | refine jE ?_)
      have hst := stick_no4 (n := n) s4
      rw [dropF_kid full hn hj hm, if_neg (by simp [hst])]
      repeat (first | refine jC ?_ | refine jN ?_ | refine jS ?_ | refine jR ?_ | refine jT ?_ | refine jB ?_ | refine jX rfl ?_ | refine jY rfl ?_ | refine jK ?_ | refine jD ?_ | refine jE ?_)
      refine Br.intro (fun hf => ?_) (fun hf => ?_)
      · repeat (first | refine jC ?_ | refine jN ?_ | refine jS ?_ | refine jR ?_ | refine jT ?_ | refine jB ?_ | refine jX rfl ?_ | refine jY rfl ?_ | refine jK ?_ | refine jD ?_ | refine jE ?_)
        refine Ix.mk j rfl hjl ?_
        repeat (first | refine jC ?_ | refine jN ?_ | refine jS ?_ | refine jR ?_ | refine jT ?_ | refine jB ?_ | refine jX rfl ?_ | refine jY rfl ?_ | refine jK ?_ | refine jD ?_ | refine jE ?_)
        refine Ld.mk (hcm.out 5 _ rfl) ?_
        repeat (first | refine jC ?_ | refine jN ?_ | refine jS ?_ | refine jR ?_ | refine jT ?_ | refine jB ?_ | refine jX rfl ?_ | refine jY rfl ?_ | refine jK ?_ | refine jD ?_ | refine jE ?_)
        refine Br.intro (fun hl => ?_) (fun hl => ?_)
        · repeat (first | refine jC ?_ | refine jN ?_ | refine jS ?_ | refine jR ?_ | refine jT ?_ | refine jB ?_ | refine jX rfl ?_ | refine jY rfl ?_ | refine jK ?_ | refine jD ?_ | refine jE ?_)
          exact EndV.val (by rw [if_pos (by rw [hf]; simpa using hl)]) (Vc.Ext.refl _)
        · repeat (first | refine jC ?_ | refine jN ?_ | refine jS ?_ | refine jR ?_ | refine jT ?_ | refine jB ?_ | refine jX rfl ?_ | refine jY rfl ?_ | refine jK ?_ | refine jD ?_ | refine jE ?_)
          exact EndV.val (by rw [if_neg (by rw [hf]; simpa using hl)]) (Vc.Ext.refl _)
      · repeat (first | refine jC ?_ | refine jN ?_ | refine jS ?_ | refine jR ?_ | refine jT ?_ | refine jB ?_ | refine jX rfl ?_ | refine jY rfl ?_ | refine jK ?_ | refine jD ?_ | refine jE ?_)
        exact EndV.val (by rw [hf]; rfl) (Vc.Ext.refl _)
    rw [dropF_kid full hn hj hm, if_pos (stick_yes s1 s2 s3 s4)]
    repeat (first | refine jC ?_ | refine jN ?_ | refine jS ?_ | refine jR ?_ | refine jT ?_ | refine jB ?_ | refine jX rfl ?_ | refine jY rfl ?_ | refine jK ?_ | refine jD ?_ | refine jE ?_)
    exact EndV.val rfl (Vc.Ext.refl _)
theorem iMayDrop_vc (ts : List Nd) (v : Value) (c : Cr) (s : ByteArray) (w : World) (hA : Ask w v ts s) : Gives Tryz.prog 35 #[v, c.v, .string s] w (.int .i64 (dropF (abvF ts c s) ts c false)) := by
  refine calls_of cx_ok Tryz.func35 Tryz.ntmps35 Tryz.results35 rfl rfl ?_
  repeat (first | refine jC ?_ | refine jN ?_ | refine jS ?_ | refine jR ?_ | refine jT ?_ | refine jB ?_ | refine jX rfl ?_ | refine jY rfl ?_ | refine jK ?_ | refine jD ?_ | refine jE ?_)
  intro b hb
  repeat (first | refine jC ?_ | refine jN ?_ | refine jS ?_ | refine jR ?_ | refine jT ?_ | refine jB ?_ | refine jX rfl ?_ | refine jY rfl ?_ | refine jK ?_ | refine jD ?_ | refine jE ?_)
  refine CallV.val (fun w' hw _ => mayDrop_vc ts v c s false w' (hA.ext hw)) ?_
  repeat (first | refine jC ?_ | refine jN ?_ | refine jS ?_ | refine jR ?_ | refine jT ?_ | refine jB ?_ | refine jX rfl ?_ | refine jY rfl ?_ | refine jK ?_ | refine jD ?_ | refine jE ?_)
  exact EndV.val rfl (Vc.Ext.refl _)
theorem sMayDrop_vc (ts : List Nd) (v : Value) (c : Cr) (s : ByteArray) (w : World) (hA : Ask w v ts s) : Gives Tryz.prog 28 #[v, c.v, .string s] w (.int .i64 (dropF (abvF ts c s) ts c false)) := by
  have hB := fun w' (hw : Vc.Ext w w') => sAboveOf_vc s w' hA.size
  cases ho : aboveOf s with
  | none =>
    have hv : aboveV s = .tuple #[.string ⟨#[]⟩, .string ⟨#[]⟩, .bool false] := by rw [aboveV, ho]
    rw [hv] at hB
    have hab : abvF ts c s = ⟨-1, ⟨#[]⟩, 1⟩ := by rw [abvF, ho]
    rw [hab]
    refine calls_of cx_ok Tryz.func28 Tryz.ntmps28 Tryz.results28 rfl rfl ?_
    repeat (first | refine jC ?_ | refine jN ?_ | refine jS ?_ | refine jR ?_ | refine jT ?_ | refine jB ?_ | refine jX rfl ?_ | refine jY rfl ?_ | refine jK ?_ | refine jD ?_ | refine jE ?_)
    intro b hb
    repeat (first | refine jC ?_ | refine jN ?_ | refine jS ?_ | refine jR ?_ | refine jT ?_ | refine jB ?_ | refine jX rfl ?_ | refine jY rfl ?_ | refine jK ?_ | refine jD ?_ | refine jE ?_)
    refine CallV.val (fun w' hw _ => hB w' hw) ?_
    repeat (first | refine jC ?_ | refine jN ?_ | refine jS ?_ | refine jR ?_ | refine jT ?_ | refine jB ?_ | refine jX rfl ?_ | refine jY rfl ?_ | refine jK ?_ | refine jD ?_ | refine jE ?_)
    refine CallV.val (fun w' hw _ => sFindNode_vc ts v c ⟨#[]⟩ w' ((hA.of (by decide)).ext hw)) ?_
    repeat (first | refine jC ?_ | refine jN ?_ | refine jS ?_ | refine jR ?_ | refine jT ?_ | refine jB ?_ | refine jX rfl ?_ | refine jY rfl ?_ | refine jK ?_ | refine jD ?_ | refine jE ?_)
    exact EndV.val rfl (Vc.Ext.refl _)
  | some x =>
    have hv : aboveV s = .tuple #[.string x.1, .string x.2, .bool true] := by rw [aboveV, ho]
    rw [hv] at hB
    have hF := fun w' (hw : Vc.Ext w w') => sFindNode_vc ts v c x.1 w' ((hA.of (by have := (above_size ho).1; omega)).ext hw)
    rcases find_cases ts c x.1 with ⟨f, he, h1, h4⟩ | ⟨k, n, he, hn, hk, hT, hc, hok⟩
    · have hab : abvF ts c s = ⟨-1, ⟨#[]⟩, f⟩ := by rw [abvF, ho]; simp only; rw [he]; simp only; rw [if_pos (by omega)]
      rw [hab]
      rw [he] at hF
      refine calls_of cx_ok Tryz.func28 Tryz.ntmps28 Tryz.results28 rfl rfl ?_
      repeat (first | refine jC ?_ | refine jN ?_ | refine jS ?_ | refine jR ?_ | refine jT ?_ | refine jB ?_ | refine jX rfl ?_ | refine jY rfl ?_ | refine jK ?_ | refine jD ?_ | refine jE ?_)
      intro b hb
      repeat (first | refine jC ?_ | refine jN ?_ | refine jS ?_ | refine jR ?_ | refine jT ?_ | refine jB ?_ | refine jX rfl ?_ | refine jY rfl ?_ | refine jK ?_ | refine jD ?_ | refine jE ?_)
      refine CallV.val (fun w' hw _ => hB w' hw) ?_
      repeat (first | refine jC ?_ | refine jN ?_ | refine jS ?_ | refine jR ?_ | refine jT ?_ | refine jB ?_ | refine jX rfl ?_ | refine jY rfl ?_ | refine jK ?_ | refine jD ?_ | refine jE ?_)
      refine CallV.val (fun w' hw _ => hF w' hw) ?_
      repeat (first | refine jC ?_ | refine jN ?_ | refine jS ?_ | refine jR ?_ | refine jT ?_ | refine jB ?_ | refine jX rfl ?_ | refine jY rfl ?_ | refine jK ?_ | refine jD ?_ | refine jE ?_)
      refine Br.yes (by simp; omega) ?_
      repeat (first | refine jC ?_ | refine jN ?_ | refine jS ?_ | refine jR ?_ | refine jT ?_ | refine jB ?_ | refine jX rfl ?_ | refine jY rfl ?_ | refine jK ?_ | refine jD ?_ | refine jE ?_)
      exact EndV.val (by rw [dropF]; simp only; rw [if_pos (by omega)]) (Vc.Ext.refl _)
    · rw [he] at hF
      obtain ⟨ad, cap, rfl, hat⟩ := hA.tree.node
      obtain ⟨nb, no, nv, kv, rfl, hcn, hN⟩ := hat k n hn
      have hsz := hA.sized.at hn
      refine calls_of cx_ok Tryz.func28 Tryz.ntmps28 Tryz.results28 rfl rfl ?_
      repeat (first | refine jC ?_ | refine jN ?_ | refine jS ?_ | refine jR ?_ | refine jT ?_ | refine jB ?_ | refine jX rfl ?_ | refine jY rfl ?_ | refine jK ?_ | refine jD ?_ | refine jE ?_)
      intro b hb
      repeat (first | refine jC ?_ | refine jN ?_ | refine jS ?_ | refine jR ?_ | refine jT ?_ | refine jB ?_ | refine jX rfl ?_ | refine jY rfl ?_ | refine jK ?_ | refine jD ?_ | refine jE ?_)
      refine CallV.val (fun w' hw _ => hB w' hw) ?_
      repeat (first | refine jC ?_ | refine jN ?_ | refine jS ?_ | refine jR ?_ | refine jT ?_ | refine jB ?_ | refine jX rfl ?_ | refine jY rfl ?_ | refine jK ?_ | refine jD ?_ | refine jE ?_)
      refine CallV.val (fun w' hw _ => hF w' hw) ?_
      repeat (first | refine jC ?_ | refine jN ?_ | refine jS ?_ | refine jR ?_ | refine jT ?_ | refine jB ?_ | refine jX rfl ?_ | refine jY rfl ?_ | refine jK ?_ | refine jD ?_ | refine jE ?_)
      refine Ix.mk k rfl hk ?_
      repeat (first | refine jC ?_ | refine jN ?_ | refine jS ?_ | refine jR ?_ | refine jT ?_ | refine jB ?_ | refine jX rfl ?_ | refine jY rfl ?_ | refine jK ?_ | refine jD ?_ | refine jE ?_)
      refine Ld.mk (hcn.out 0 _ rfl) ?_
      repeat (first | refine jC ?_ | refine jN ?_ | refine jS ?_ | refine jR ?_ | refine jT ?_ | refine jB ?_ | refine jX rfl ?_ | refine jY rfl ?_ | refine jK ?_ | refine jD ?_ | refine jE ?_)
      refine Br.intro (fun h => ?_) (fun h => ?_)
      · have hab : abvF ts c s = ⟨-1, ⟨#[]⟩, 4⟩ := by rw [abvF, ho]; simp only; rw [he]; simp only [Int.toNat_natCast, hn]; rw [if_neg (by simp), if_pos (by simpa using h)]
        rw [hab]
        repeat (first | refine jC ?_ | refine jN ?_ | refine jS ?_ | refine jR ?_ | refine jT ?_ | refine jB ?_ | refine jX rfl ?_ | refine jY rfl ?_ | refine jK ?_ | refine jD ?_ | refine jE ?_)
        exact EndV.val (by rw [dropF]; simp only; rw [if_pos (by simp)]) (Vc.Ext.refl _)
      repeat (first | refine jC ?_ | refine jN ?_ | refine jS ?_ | refine jR ?_ | refine jT ?_ | refine jB ?_ | refine jX rfl ?_ | refine jY rfl ?_ | refine jK ?_ | refine jD ?_ | refine jE ?_)
      refine WpC.draw (by kernel_rfl) ?_
      repeat (first | refine jC ?_ | refine jN ?_ | refine jS ?_ | refine jR ?_ | refine jT ?_ | refine jB ?_ | refine jX rfl ?_ | refine jY rfl ?_ | refine jK ?_ | refine jD ?_ | refine jE ?_)
      refine Ix.mk k rfl hk ?_
      repeat (first | refine jC ?_ | refine jN ?_ | refine jS ?_ | refine jR ?_ | refine jT ?_ | refine jB ?_ | refine jX rfl ?_ | refine jY rfl ?_ | refine jK ?_ | refine jD ?_ | refine jE ?_)
      refine LdN.mk hcn rfl ?_
      repeat (first | refine jC ?_ | refine jN ?_ | refine jS ?_ | refine jR ?_ | refine jT ?_ | refine jB ?_ | refine jX rfl ?_ | refine jY rfl ?_ | refine jK ?_ | refine jD ?_ | refine jE ?_)
      refine QCallV.val (fun w' _ _ => sMay_vc n nv kv c 3 w' hc hok (by decide)) ?_
      repeat (first | refine jC ?_ | refine jN ?_ | refine jS ?_ | refine jR ?_ | refine jT ?_ | refine jB ?_ | refine jX rfl ?_ | refine jY rfl ?_ | refine jK ?_ | refine jD ?_ | refine jE ?_)
      refine Br.intro (fun h2 => ?_) (fun h2 => ?_)
      · have hab : abvF ts c s = ⟨-1, ⟨#[]⟩, 3⟩ := by rw [abvF, ho]; simp only; rw [he]; simp only [Int.toNat_natCast, hn]; rw [if_neg (by simp), if_neg (by simpa using h), if_neg (by simpa using h2)]
        rw [hab]
        repeat (first | refine jC ?_ | refine jN ?_ | refine jS ?_ | refine jR ?_ | refine jT ?_ | refine jB ?_ | refine jX rfl ?_ | refine jY rfl ?_ | refine jK ?_ | refine jD ?_ | refine jE ?_)
        exact EndV.val (by rw [dropF]; simp only; rw [if_pos (by simp)]) (Vc.Ext.refl _)
      have hab : abvF ts c s = ⟨(k : Int), x.2, 0⟩ := by rw [abvF, ho]; simp only; rw [he]; simp only [Int.toNat_natCast, hn]; rw [if_neg (by simp), if_neg (by simpa using h), if_pos (by simpa using h2)]
      rw [hab]
      repeat (first | refine jC ?_ | refine jN ?_ | refine jS ?_ | refine jR ?_ | refine jT ?_ | refine jB ?_ | refine jX rfl ?_ | refine jY rfl ?_ | refine jK ?_ | refine jD ?_ | refine jE ?_)
      refine Ix.mk k rfl hk ?_
      repeat (first | refine jC ?_ | refine jN ?_ | refine jS ?_ | refine jR ?_ | refine jT ?_ | refine jB ?_ | refine jX rfl ?_ | refine jY rfl ?_ | refine jK ?_ | refine jD ?_ | refine jE ?_)
      refine LdN.mk hcn rfl ?_
      repeat (first | refine jC ?_ | refine jN ?_ | refine jS ?_ | refine jR ?_ | refine jT ?_ | refine jB ?_ | refine jX rfl ?_ | refine jY rfl ?_ | refine jK ?_ | refine jD ?_ | refine jE ?_)
      refine CallV.val (fun w' hw _ => sKid_vc n nv kv x.2 w' (hN.ext hw) hsz.1 hok.len) ?_
      repeat (first | refine jC ?_ | refine jN ?_ | refine jS ?_ | refine jR ?_ | refine jT ?_ | refine jB ?_ | refine jX rfl ?_ | refine jY rfl ?_ | refine jK ?_ | refine jD ?_ | refine jE ?_)
      refine Br.intro (fun h5 => ?_) (fun h5 => ?_)
      · rw [dropF_none false hn (of_decide_eq_true h5)]
        repeat (first | refine jC ?_ | refine jN ?_ | refine jS ?_ | refine jR ?_ | refine jT ?_ | refine jB ?_ | refine jX rfl ?_ | refine jY rfl ?_ | refine jK ?_ | refine jD ?_ | refine jE ?_)
        exact EndV.val rfl (Vc.Ext.refl _)
      obtain ⟨j, hj, hjl⟩ := kid_in hT hn (of_decide_eq_false h5)
      have hm : ts[j]? = some ts[j] := List.getElem?_eq_getElem hjl
      generalize ts[j] = m at hm
      obtain ⟨mb, mo, mnv, mkv, e7, hcm, hNm⟩ := hat j m hm
      cases e7
      obtain ⟨mad, mcap, rfl, _⟩ := names_open hNm
      rw [hj]
      repeat (first | refine jC ?_ | refine jN ?_ | refine jS ?_ | refine jR ?_ | refine jT ?_ | refine jB ?_ | refine jX rfl ?_ | refine jY rfl ?_ | refine jK ?_ | refine jD ?_ | refine jE ?_)
      refine WpC.draw (by kernel_rfl) ?_
      repeat (first | refine jC ?_ | refine jN ?_ | refine jS ?_ | refine jR ?_ | refine jT ?_ | refine jB ?_ | refine jX rfl ?_ | refine jY rfl ?_ | refine jK ?_ | refine jD ?_ | refine jE ?_)
      refine Ix.mk k rfl hk ?_
      repeat (first | refine jC ?_ | refine jN ?_ | refine jS ?_ | refine jR ?_ | refine jT ?_ | refine jB ?_ | refine jX rfl ?_ | refine jY rfl ?_ | refine jK ?_ | refine jD ?_ | refine jE ?_)
      refine Ld.mk (hcn.out 3 _ rfl) ?_
      repeat (first | refine jC ?_ | refine jN ?_ | refine jS ?_ | refine jR ?_ | refine jT ?_ | refine jB ?_ | refine jX rfl ?_ | refine jY rfl ?_ | refine jK ?_ | refine jD ?_ | refine jE ?_)
      refine Br.intro (fun s1 => ?_) (fun s1 => ?_)
      rotate_left
      · repeat (first | refine jC ?_ | refine jN ?_ | refine jS ?_ | refine jR ?_ | refine jT ?_ | refine jB ?_ | refine jX rfl ?_ | refine jY rfl ?_ | refine jK ?_ | refine jD ?_ | refine jE ?_)
        have hst := stick_no1 (c := c) (m := m) s1
        rw [dropF_kid false hn hj hm, if_neg (by simp [hst])]
        repeat (first | refine jC ?_ | refine jN ?_ | refine jS ?_ | refine jR ?_ | refine jT ?_ | refine jB ?_ | refine jX rfl ?_ | refine jY rfl ?_ | refine jK ?_ | refine jD ?_ | refine jE ?_)
        refine Ix.mk j rfl hjl ?_
        repeat (first | refine jC ?_ | refine jN ?_ | refine jS ?_ | refine jR ?_ | refine jT ?_ | refine jB ?_ | refine jX rfl ?_ | refine jY rfl ?_ | refine jK ?_ | refine jD ?_ | refine jE ?_)
        refine Ld.mk (hcm.out 5 _ rfl) ?_
        repeat (first | refine jC ?_ | refine jN ?_ | refine jS ?_ | refine jR ?_ | refine jT ?_ | refine jB ?_ | refine jX rfl ?_ | refine jY rfl ?_ | refine jK ?_ | refine jD ?_ | refine jE ?_)
        refine Br.intro (fun hl => ?_) (fun hl => ?_)
        · repeat (first | refine jC ?_ | refine jN ?_ | refine jS ?_ | refine jR ?_ | refine jT ?_ | refine jB ?_ | refine jX rfl ?_ | refine jY rfl ?_ | refine jK ?_ | refine jD ?_ | refine jE ?_)
          exact EndV.val (by rw [if_pos (by simpa using hl)]) (Vc.Ext.refl _)
        · repeat (first | refine jC ?_ | refine jN ?_ | refine jS ?_ | refine jR ?_ | refine jT ?_ | refine jB ?_ | refine jX rfl ?_ | refine jY rfl ?_ | refine jK ?_ | refine jD ?_ | refine jE ?_)
          exact EndV.val (by rw [if_neg (by simpa using hl)]) (Vc.Ext.refl _)
      repeat (first | refine jC ?_ | refine jN ?_ | refine jS ?_ | refine jR ?_ | refine jT ?_ | refine jB ?_ | refine jX rfl ?_ | refine jY rfl ?_ | refine jK ?_ | refine jD ?_ | refine jE ?_)
      refine Br.intro (fun s2 => ?_) (fun s2 => ?_)
      rotate_left
      · repeat (first | refine jC ?_ | refine jN ?_ | refine jS ?_ | refine jR ?_ | refine jT ?_ | refine jB ?_ | refine jX rfl ?_ | refine jY rfl ?_ | refine jK ?_ | refine jD ?_ | refine jE ?_)
        have hst := stick_no2 (n := n) (m := m) s2
        rw [dropF_kid false hn hj hm, if_neg (by simp [hst])]
        repeat (first | refine jC ?_ | refine jN ?_ | refine jS ?_ | refine jR ?_ | refine jT ?_ | refine jB ?_ | refine jX rfl ?_ | refine jY rfl ?_ | refine jK ?_ | refine jD ?_ | refine jE ?_)
        refine Ix.mk j rfl hjl ?_
        repeat (first | refine jC ?_ | refine jN ?_ | refine jS ?_ | refine jR ?_ | refine jT ?_ | refine jB ?_ | refine jX rfl ?_ | refine jY rfl ?_ | refine jK ?_ | refine jD ?_ | refine jE ?_)
        refine Ld.mk (hcm.out 5 _ rfl) ?_
        repeat (first | refine jC ?_ | refine jN ?_ | refine jS ?_ | refine jR ?_ | refine jT ?_ | refine jB ?_ | refine jX rfl ?_ | refine jY rfl ?_ | refine jK ?_ | refine jD ?_ | refine jE ?_)
        refine Br.intro (fun hl => ?_) (fun hl => ?_)
        · repeat (first | refine jC ?_ | refine jN ?_ | refine jS ?_ | refine jR ?_ | refine jT ?_ | refine jB ?_ | refine jX rfl ?_ | refine jY rfl ?_ | refine jK ?_ | refine jD ?_ | refine jE ?_)
          exact EndV.val (by rw [if_pos (by simpa using hl)]) (Vc.Ext.refl _)
        · repeat (first | refine jC ?_ | refine jN ?_ | refine jS ?_ | refine jR ?_ | refine jT ?_ | refine jB ?_ | refine jX rfl ?_ | refine jY rfl ?_ | refine jK ?_ | refine jD ?_ | refine jE ?_)
          exact EndV.val (by rw [if_neg (by simpa using hl)]) (Vc.Ext.refl _)
      repeat (first | refine jC ?_ | refine jN ?_ | refine jS ?_ | refine jR ?_ | refine jT ?_ | refine jB ?_ | refine jX rfl ?_ | refine jY rfl ?_ | refine jK ?_ | refine jD ?_ | refine jE ?_)
      refine Ix.mk k rfl hk ?_
      repeat (first | refine jC ?_ | refine jN ?_ | refine jS ?_ | refine jR ?_ | refine jT ?_ | refine jB ?_ | refine jX rfl ?_ | refine jY rfl ?_ | refine jK ?_ | refine jD ?_ | refine jE ?_)
      refine Ld.mk (hcn.out 1 _ rfl) ?_
      repeat (first | refine jC ?_ | refine jN ?_ | refine jS ?_ | refine jR ?_ | refine jT ?_ | refine jB ?_ | refine jX rfl ?_ | refine jY rfl ?_ | refine jK ?_ | refine jD ?_ | refine jE ?_)
      refine Br.intro (fun s3 => ?_) (fun s3 => ?_)
      rotate_left
      · repeat (first | refine jC ?_ | refine jN ?_ | refine jS ?_ | refine jR ?_ | refine jT ?_ | refine jB ?_ | refine jX rfl ?_ | refine jY rfl ?_ | refine jK ?_ | refine jD ?_ | refine jE ?_)
        have hst := stick_no3 (m := m) s3
        rw [dropF_kid false hn hj hm, if_neg (by simp [hst])]
        repeat (first | refine jC ?_ | refine jN ?_ | refine jS ?_ | refine jR ?_ | refine jT ?_ | refine jB ?_ | refine jX rfl ?_ | refine jY rfl ?_ | refine jK ?_ | refine jD ?_ | refine jE ?_)
        refine Ix.mk j rfl hjl ?_
        repeat (first | refine jC ?_ | refine jN ?_ | refine jS ?_ | refine jR ?_ | refine jT ?_ | refine jB ?_ | refine jX rfl ?_ | refine jY rfl ?_ | refine jK ?_ | refine jD ?_ | refine jE ?_)
        refine Ld.mk (hcm.out 5 _ rfl) ?_
        repeat (first | refine jC ?_ | refine jN ?_ | refine jS ?_ | refine jR ?_ | refine jT ?_ | refine jB ?_ | refine jX rfl ?_ | refine jY rfl ?_ | refine jK ?_ | refine jD ?_ | refine jE ?_)
        refine Br.intro (fun hl => ?_) (fun hl => ?_)
        · repeat (first | refine jC ?_ | refine jN ?_ | refine jS ?_ | refine jR ?_ | refine jT ?_ | refine jB ?_ | refine jX rfl ?_ | refine jY rfl ?_ | refine jK ?_ | refine jD ?_ | refine jE ?_)
          exact EndV.val (by rw [if_pos (by simpa using hl)]) (Vc.Ext.refl _)
        · repeat (first | refine jC ?_ | refine jN ?_ | refine jS ?_ | refine jR ?_ | refine jT ?_ | refine jB ?_ | refine jX rfl ?_ | refine jY rfl ?_ | refine jK ?_ | refine jD ?_ | refine jE ?_)
          exact EndV.val (by rw [if_neg (by simpa using hl)]) (Vc.Ext.refl _)
      repeat (first | refine jC ?_ | refine jN ?_ | refine jS ?_ | refine jR ?_ | refine jT ?_ | refine jB ?_ | refine jX rfl ?_ | refine jY rfl ?_ | refine jK ?_ | refine jD ?_ | refine jE ?_)
      refine Ix.mk j rfl hjl ?_
      repeat (first | refine jC ?_ | refine jN ?_ | refine jS ?_ | refine jR ?_ | refine jT ?_ | refine jB ?_ | refine jX rfl ?_ | refine jY rfl ?_ | refine jK ?_ | refine jD ?_ | refine jE ?_)
      refine Ld.mk (hcm.out 1 _ rfl) ?_
      repeat (first | refine jC ?_ | refine jN ?_ | refine jS ?_ | refine jR ?_ | refine jT ?_ | refine jB ?_ | refine jX rfl ?_ | refine jY rfl ?_ | refine jK ?_ | refine jD ?_ | refine jE ?_)
      refine Br.intro (fun s4 => ?_) (fun s4 => ?_)
      rotate_left
      · repeat (first | refine jC ?_ | refine jN ?_ | refine jS ?_ | refine jR ?_ | refine jT ?_ | refine jB ?_ | refine jX rfl ?_ | refine jY rfl ?_ | refine jK ?_ | refine jD ?_ | refine jE ?_)
        have hst := stick_no4 (n := n) s4
        rw [dropF_kid false hn hj hm, if_neg (by simp [hst])]
        repeat (first | refine jC ?_ | refine jN ?_ | refine jS ?_ | refine jR ?_ | refine jT ?_ | refine jB ?_ | refine jX rfl ?_ | refine jY rfl ?_ | refine jK ?_ | refine jD ?_ | refine jE ?_)
        refine Ix.mk j rfl hjl ?_
        repeat (first | refine jC ?_ | refine jN ?_ | refine jS ?_ | refine jR ?_ | refine jT ?_ | refine jB ?_ | refine jX rfl ?_ | refine jY rfl ?_ | refine jK ?_ | refine jD ?_ | refine jE ?_)
        refine Ld.mk (hcm.out 5 _ rfl) ?_
        repeat (first | refine jC ?_ | refine jN ?_ | refine jS ?_ | refine jR ?_ | refine jT ?_ | refine jB ?_ | refine jX rfl ?_ | refine jY rfl ?_ | refine jK ?_ | refine jD ?_ | refine jE ?_)
        refine Br.intro (fun hl => ?_) (fun hl => ?_)
        · repeat (first | refine jC ?_ | refine jN ?_ | refine jS ?_ | refine jR ?_ | refine jT ?_ | refine jB ?_ | refine jX rfl ?_ | refine jY rfl ?_ | refine jK ?_ | refine jD ?_ | refine jE ?_)
          exact EndV.val (by rw [if_pos (by simpa using hl)]) (Vc.Ext.refl _)
        · repeat (first | refine jC ?_ | refine jN ?_ | refine jS ?_ | refine jR ?_ | refine jT ?_ | refine jB ?_ | refine jX rfl ?_ | refine jY rfl ?_ | refine jK ?_ | refine jD ?_ | refine jE ?_)
          exact EndV.val (by rw [if_neg (by simpa using hl)]) (Vc.Ext.refl _)
      rw [dropF_kid false hn hj hm, if_pos (stick_yes s1 s2 s3 s4)]
      repeat (first | refine jC ?_ | refine jN ?_ | refine jS ?_ | refine jR ?_ | refine jT ?_ | refine jB ?_ | refine jX rfl ?_ | refine jY rfl ?_ | refine jK ?_ | refine jD ?_ | refine jE ?_)
      exact EndV.val rfl (Vc.Ext.refl _)
end Go.Proofs.YtbnjjpgacemicaaGreatDoor
