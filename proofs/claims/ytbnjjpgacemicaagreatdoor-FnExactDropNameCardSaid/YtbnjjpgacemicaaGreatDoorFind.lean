/-
  Contracts: the node with a name, what a credential may do with a node, FindNode; the program's and the reference's.
  Conditions: bounds; the library's variable MaxLen holds some number.
-/
import Derived.Test.YtbnjjpgacemicaaGreatDoorKidP
import Derived.Test.YtbnjjpgacemicaaGreatDoorTreeV
import Derived.Test.YtbnjjpgacemicaaGreatDoorPath
import Derived.Test.YtbnjjpgacemicaaGreatDoorMay
import Derived.Test.YtbnjjpgacemicaaGreatDoorShelfB
namespace Go.Proofs.YtbnjjpgacemicaaGreatDoor
open Go.RowKit Vc
set_option linter.unusedVariables false
attribute [local irreducible] WpC WpL WpD WpE WpB CallV QCallV Made AppV Ld LdN Ix EndV I64 MutN Mut CellsAt

theorem Ext.drewN (w : World) (q : Nat) : Vc.Ext w (w.drewN q) := ⟨rfl, rfl, rfl, Nat.le_refl _, fun _ _ => rfl⟩
theorem Nd.Ok.asc' {n : Nd} (h : n.Ok) : Asc n.names := h.asc
theorem bs_at (l : List ByteArray) (x : ByteArray) (h : Asc l) : Lib.bsGo (fun t => Op.bytesLess ((l[t]?).getD x).toList x.toList) l.length 0 l.length = posN l x :=
  Lib.bsGo_spec _ _ (fun t ht => by
    have := posN_le l x
    have hu : l[t]? = some l[t] := List.getElem?_eq_getElem (by omega)
    simp only [hu, Option.getD_some]
    exact posN_lo ht hu) (fun t ht => by
    cases hu : l[t]? with
    | none => simp only [Option.getD_none]; exact bl_irrefl _
    | some y => simp only [Option.getD_some]; exact posN_hi h ht hu) _ _ _ (by omega) (Nat.zero_le _) (posN_le _ _)
theorem bs_call (l : List ByteArray) (v : Value) (x : ByteArray) (w : World) (hR : Row1 w v (strs l)) (hl : l.length ≤ 8388608) (ha : Asc l) :
    Gives Tryz.prog 78 #[v, .string x] w (.tuple #[.int .i64 (posN l x : Nat), .bool (decide (l[posN l x]? = some x))]) := by
  obtain ⟨ad, cap, rfl, hlc, hcm, hat⟩ := hR
  rw [List.length_map] at hlc hat ⊢
  rcases Nat.eq_zero_or_pos l.length with h0 | h0
  · have : l = [] := List.eq_nil_of_length_eq_zero h0
    subst this
    exact (Tryz.slices_BinarySearch_string_empty ad cap x w).mono fun e w' ⟨h1, h2⟩ => ⟨by rw [h1]; rfl, by subst h2; exact Vc.Ext.refl _⟩
  · obtain ⟨b, o, rfl, hc⟩ := hat h0
    refine (Tryz.slices_BinarySearch_string b o l.length cap (fun t => (l[t]?).getD x) x w (by omega) (fun j hj => ?_)).mono fun e w' ⟨h1, q, h2⟩ => ⟨?_, by subst h2; exact Ext.drewN w q⟩
    · have hu : l[j]? = some l[j] := List.getElem?_eq_getElem hj
      simp only [hu, Option.getD_some]
      exact hc.out j _ (strs_get hu)
    · rw [h1]
      have e := bs_at l x ha
      rw [e]
      refine congrArg (fun d => Ending.returned (.tuple #[.int .i64 (posN l x : Nat), .bool d])) ?_
      rw [decide_eq_decide]
      constructor
      · rintro ⟨h2, h3⟩
        have hu : l[posN l x]? = some l[posN l x] := List.getElem?_eq_getElem h2
        rw [hu] at h3 ⊢
        simpa using h3
      · intro h2
        exact ⟨(List.getElem?_eq_some_iff.1 h2).1, by rw [h2]; rfl⟩
theorem iKid_vc (n : Nd) (nv kv : Value) (s : ByteArray) (w : World) (hN : NdIn w n nv kv) (ha : Asc n.names) (hnl : n.names.length ≤ 8388608) (hk : n.names.length = n.kids.length) :
    Gives Tryz.prog 63 #[n.val nv kv, .string s] w (.int .i64 (n.kid s)) := by
  obtain ⟨kad, kcap, rfl, hka⟩ := kids_open hN
  refine calls_of cx_ok Tryz.func63 Tryz.ntmps63 Tryz.results63 rfl rfl ?_
  repeat (first | refine jC ?_ | refine jN ?_ | refine jS ?_ | refine jR ?_ | refine jT ?_ | refine jB ?_ | refine jX rfl ?_ | refine jY rfl ?_ | refine jK ?_ | refine jD ?_ | refine jE ?_)
  intro b hb
  repeat (first | refine jC ?_ | refine jN ?_ | refine jS ?_ | refine jR ?_ | refine jT ?_ | refine jB ?_ | refine jX rfl ?_ | refine jY rfl ?_ | refine jK ?_ | refine jD ?_ | refine jE ?_)
  refine CallV.val (fun w' hw _ => bs_call n.names nv s w' (hN.1.ext hw) hnl ha) ?_
  repeat (first | refine jC ?_ | refine jN ?_ | refine jS ?_ | refine jR ?_ | refine jT ?_ | refine jB ?_ | refine jX rfl ?_ | refine jY rfl ?_ | refine jK ?_ | refine jD ?_ | refine jE ?_)
  refine Br.intro (fun h => ?_) (fun h => ?_)
  · have h : n.names[posN n.names s]? ≠ some s := by simpa using h
    repeat (first | refine jC ?_ | refine jN ?_ | refine jS ?_ | refine jR ?_ | refine jT ?_ | refine jB ?_ | refine jX rfl ?_ | refine jY rfl ?_ | refine jK ?_ | refine jD ?_ | refine jE ?_)
    exact EndV.val (by rw [kid_no ha h]) (Vc.Ext.refl _)
  · have h : n.names[posN n.names s]? = some s := by simpa using h
    have hlt := (List.getElem?_eq_some_iff.1 h).1
    have hu : n.kids[posN n.names s]? = some n.kids[posN n.names s] := List.getElem?_eq_getElem (by omega)
    obtain ⟨kb, ko, rfl, _, hkc⟩ := hka (by omega)
    repeat (first | refine jC ?_ | refine jN ?_ | refine jS ?_ | refine jR ?_ | refine jT ?_ | refine jB ?_ | refine jX rfl ?_ | refine jY rfl ?_ | refine jK ?_ | refine jD ?_ | refine jE ?_)
    refine Ix.mk (posN n.names s) rfl (by omega) ?_
    repeat (first | refine jC ?_ | refine jN ?_ | refine jS ?_ | refine jR ?_ | refine jT ?_ | refine jB ?_ | refine jX rfl ?_ | refine jY rfl ?_ | refine jK ?_ | refine jD ?_ | refine jE ?_)
    refine Ld.mk (hkc.out (posN n.names s) (.int .i64 n.kids[posN n.names s]) (by simp [hk ▸ hlt])) ?_
    repeat (first | refine jC ?_ | refine jN ?_ | refine jS ?_ | refine jR ?_ | refine jT ?_ | refine jB ?_ | refine jX rfl ?_ | refine jY rfl ?_ | refine jK ?_ | refine jD ?_ | refine jE ?_)
    exact EndV.val (by rw [kid_at ha h hu]) (Vc.Ext.refl _)
theorem sKid_vc (n : Nd) (nv kv : Value) (s : ByteArray) (w : World) (hN : NdIn w n nv kv) (hnl : n.names.length ≤ 8388608) (hk : n.names.length = n.kids.length) :
    Gives Tryz.prog 61 #[n.val nv kv, .string s] w (.int .i64 (n.kid s)) := by
  obtain ⟨kad, kcap, rfl, hka⟩ := kids_open hN
  obtain ⟨nad, ncap, rfl, hna⟩ := names_open hN
  refine calls_of cx_ok Tryz.func61 Tryz.ntmps61 Tryz.results61 rfl rfl ?_
  repeat (first | refine jC ?_ | refine jN ?_ | refine jS ?_ | refine jR ?_ | refine jT ?_ | refine jB ?_ | refine jX rfl ?_ | refine jY rfl ?_ | refine jK ?_ | refine jD ?_ | refine jE ?_)
  intro b hb
  repeat (first | refine jC ?_ | refine jN ?_ | refine jS ?_ | refine jR ?_ | refine jT ?_ | refine jB ?_ | refine jX rfl ?_ | refine jY rfl ?_ | refine jK ?_ | refine jD ?_ | refine jE ?_)
  refine WpC.loop (α := Nat) (fun x => ⟨[(1, .v (.string s)), (2, .own 0 0), (5, .v (.int .i64 (x : Int)))], [⟨b, n.cells (.slice nad n.names.length ncap) (.slice kad n.kids.length kcap), 52⟩], w⟩)
    (fun x => x ≤ n.names.length ∧ kidB (n.names.drop x) (n.kids.drop x) s = n.kid s) (fun x => n.names.length - x) 0 ⟨Nat.zero_le _, rfl⟩ ⟨⟨rfl, rfl, rfl, trivial⟩, ⟨rfl, trivial⟩, ⟨rfl, trivial⟩, Vc.Ext.refl _⟩ ?_
  rintro k ⟨hkl, hg⟩
  repeat (first | refine jC ?_ | refine jN ?_ | refine jS ?_ | refine jR ?_ | refine jT ?_ | refine jB ?_ | refine jX rfl ?_ | refine jY rfl ?_ | refine jK ?_ | refine jD ?_ | refine jE ?_)
  refine Br.intro (fun h => ?_) (fun h => ?_)
  · have hlt : k < n.names.length := by have := of_decide_eq_true h; omega
    have hu : n.names[k]? = some n.names[k] := List.getElem?_eq_getElem hlt
    have hv : n.kids[k]? = some n.kids[k] := List.getElem?_eq_getElem (by omega)
    generalize n.names[k] = x at hu
    generalize n.kids[k] = y at hv
    rw [kidB_drop hu hv] at hg
    obtain ⟨kb, ko, rfl, _, hkc⟩ := hka (by omega)
    obtain ⟨nb, no, rfl, _, hnc⟩ := hna (by omega)
    repeat (first | refine jC ?_ | refine jN ?_ | refine jS ?_ | refine jR ?_ | refine jT ?_ | refine jB ?_ | refine jX rfl ?_ | refine jY rfl ?_ | refine jK ?_ | refine jD ?_ | refine jE ?_)
    refine Ix.mk k rfl hlt ?_
    repeat (first | refine jC ?_ | refine jN ?_ | refine jS ?_ | refine jR ?_ | refine jT ?_ | refine jB ?_ | refine jX rfl ?_ | refine jY rfl ?_ | refine jK ?_ | refine jD ?_ | refine jE ?_)
    refine Ld.mk (hnc.out k _ (strs_get hu)) ?_
    repeat (first | refine jC ?_ | refine jN ?_ | refine jS ?_ | refine jR ?_ | refine jT ?_ | refine jB ?_ | refine jX rfl ?_ | refine jY rfl ?_ | refine jK ?_ | refine jD ?_ | refine jE ?_)
    refine Br.intro (fun h2 => ?_) (fun h2 => ?_)
    · rw [toList_beq] at h2
      rw [if_pos (of_decide_eq_true h2)] at hg
      repeat (first | refine jC ?_ | refine jN ?_ | refine jS ?_ | refine jR ?_ | refine jT ?_ | refine jB ?_ | refine jX rfl ?_ | refine jY rfl ?_ | refine jK ?_ | refine jD ?_ | refine jE ?_)
      refine Ix.mk k rfl (by omega) ?_
      repeat (first | refine jC ?_ | refine jN ?_ | refine jS ?_ | refine jR ?_ | refine jT ?_ | refine jB ?_ | refine jX rfl ?_ | refine jY rfl ?_ | refine jK ?_ | refine jD ?_ | refine jE ?_)
      refine Ld.mk (hkc.out k (.int .i64 y) (by simp [hv])) ?_
      repeat (first | refine jC ?_ | refine jN ?_ | refine jS ?_ | refine jR ?_ | refine jT ?_ | refine jB ?_ | refine jX rfl ?_ | refine jY rfl ?_ | refine jK ?_ | refine jD ?_ | refine jE ?_)
      exact EndV.val (by rw [hg]) (Vc.Ext.refl _)
    · rw [toList_beq] at h2
      rw [if_neg (of_decide_eq_false h2)] at hg
      repeat (first | refine jC ?_ | refine jN ?_ | refine jS ?_ | refine jR ?_ | refine jT ?_ | refine jB ?_ | refine jX rfl ?_ | refine jY rfl ?_ | refine jK ?_ | refine jD ?_ | refine jE ?_)
      refine ⟨I64.mk (by omega), ?_⟩
      repeat (first | refine jC ?_ | refine jN ?_ | refine jS ?_ | refine jR ?_ | refine jT ?_ | refine jB ?_ | refine jX rfl ?_ | refine jY rfl ?_ | refine jK ?_ | refine jD ?_ | refine jE ?_)
      exact ⟨k + 1, ⟨hlt, hg⟩, by show n.names.length - (k + 1) < n.names.length - k; omega, ⟨rfl, rfl, rfl, trivial⟩, ⟨rfl, trivial⟩, ⟨rfl, trivial⟩, Vc.Ext.refl _⟩
  · have hke : k = n.names.length := by have := of_decide_eq_false h; omega
    subst hke
    rw [List.drop_length] at hg
    unfold kidB at hg
    repeat (first | refine jC ?_ | refine jN ?_ | refine jS ?_ | refine jR ?_ | refine jT ?_ | refine jB ?_ | refine jX rfl ?_ | refine jY rfl ?_ | refine jK ?_ | refine jD ?_ | refine jE ?_)
    exact EndV.val (by rw [← hg]) (Vc.Ext.refl _)
theorem allows_vc (n : Nd) (nv kv : Value) (c : Cr) (want : Int) (w : World) (hn : n.Ok) (hw : inR want 0 7 = true) :
    Gives Tryz.prog 77 #[n.val nv kv, c.v, .int .i64 want] w (.bool (mayN c n want)) := by
  refine calls_of cx_ok Tryz.func77 Tryz.ntmps77 Tryz.results77 rfl rfl ?_
  repeat (first | refine jC ?_ | refine jN ?_ | refine jS ?_ | refine jR ?_ | refine jT ?_ | refine jB ?_ | refine jX rfl ?_ | refine jY rfl ?_ | refine jK ?_ | refine jD ?_ | refine jE ?_)
  intro b hb
  repeat (first | refine jC ?_ | refine jN ?_ | refine jS ?_ | refine jR ?_ | refine jT ?_ | refine jB ?_ | refine jX rfl ?_ | refine jY rfl ?_ | refine jK ?_ | refine jD ?_ | refine jE ?_)
  intro b2 hb2
  repeat (first | refine jC ?_ | refine jN ?_ | refine jS ?_ | refine jR ?_ | refine jT ?_ | refine jB ?_ | refine jX rfl ?_ | refine jY rfl ?_ | refine jK ?_ | refine jD ?_ | refine jE ?_)
  refine CallV.val (fun w' _ _ => mayDo_any c n.owner n.group n.mode want w' hn.mod hw) ?_
  repeat (first | refine jC ?_ | refine jN ?_ | refine jS ?_ | refine jR ?_ | refine jT ?_ | refine jB ?_ | refine jX rfl ?_ | refine jY rfl ?_ | refine jK ?_ | refine jD ?_ | refine jE ?_)
  exact EndV.val rfl (Vc.Ext.refl _)
theorem sMay_vc (n : Nd) (nv kv : Value) (c : Cr) (want : Int) (w : World) (hc : c.ok = true) (hn : n.Ok) (hw : inR want 0 7 = true) :
    Gives Tryz.prog 73 #[c.v, n.val nv kv, .int .i64 want] w (.bool (mayN c n want)) := by
  refine calls_of cx_ok Tryz.func73 Tryz.ntmps73 Tryz.results73 rfl rfl ?_
  repeat (first | refine jC ?_ | refine jN ?_ | refine jS ?_ | refine jR ?_ | refine jT ?_ | refine jB ?_ | refine jX rfl ?_ | refine jY rfl ?_ | refine jK ?_ | refine jD ?_ | refine jE ?_)
  intro b hb
  repeat (first | refine jC ?_ | refine jN ?_ | refine jS ?_ | refine jR ?_ | refine jT ?_ | refine jB ?_ | refine jX rfl ?_ | refine jY rfl ?_ | refine jK ?_ | refine jD ?_ | refine jE ?_)
  intro b2 hb2
  repeat (first | refine jC ?_ | refine jN ?_ | refine jS ?_ | refine jR ?_ | refine jT ?_ | refine jB ?_ | refine jX rfl ?_ | refine jY rfl ?_ | refine jK ?_ | refine jD ?_ | refine jE ?_)
  refine CallV.val (fun w' _ _ => sMayDo_any c n.owner n.group n.mode want w') ?_
  repeat (first | refine jC ?_ | refine jN ?_ | refine jS ?_ | refine jR ?_ | refine jT ?_ | refine jB ?_ | refine jX rfl ?_ | refine jY rfl ?_ | refine jK ?_ | refine jD ?_ | refine jE ?_)
  exact EndV.val (by rw [mayN_in hc hn hw]) (Vc.Ext.refl _)
@[reducible] def two (p : Int × Int) : Value := .tuple #[.int .i64 p.1, .int .i64 p.2]
/-- What is asked of a tree that is searched. -/
structure Ask (w : World) (v : Value) (ts : List Nd) (s : ByteArray) : Prop where
  tree : Tree w v ts
  sized : Sized ts
  wf : ∀ n ∈ ts, n.wf
  size : s.size ≤ 1048600
  ml : ML w
theorem Ask.ext {w w' : World} {v : Value} {ts : List Nd} {s : ByteArray} (h : Ask w v ts s) (hx : Vc.Ext w w') : Ask w' v ts s := ⟨h.tree.ext hx, h.sized, h.wf, h.size, h.ml.ext hx⟩
theorem Sized.at {ts : List Nd} (h : Sized ts) {k : Nat} {n : Nd} (hk : ts[k]? = some n) : n.names.length ≤ 8388608 ∧ n.kids.length ≤ 8388608 := h.2 n (List.mem_of_getElem? hk)
set_option maxHeartbeats 1000000 in
theorem iFindNode_vc (ts : List Nd) (v : Value) (c : Cr) (s : ByteArray) (w : World) (hA : Ask w v ts s) :
    Gives Tryz.prog 52 #[v, c.v, .string s] w (two (findF ts c s)) := by
  refine calls_of cx_ok Tryz.func52 Tryz.ntmps52 Tryz.results52 rfl rfl ?_
  repeat (first | refine jC ?_ | refine jN ?_ | refine jS ?_ | refine jR ?_ | refine jT ?_ | refine jB ?_ | refine jX rfl ?_ | refine jY rfl ?_ | refine jK ?_ | refine jD ?_ | refine jE ?_)
  intro b hb
  repeat (first | refine jC ?_ | refine jN ?_ | refine jS ?_ | refine jR ?_ | refine jT ?_ | refine jB ?_ | refine jX rfl ?_ | refine jY rfl ?_ | refine jK ?_ | refine jD ?_ | refine jE ?_)
  refine CallV.mem _ (fun w' hw _ => iPathParts_vc s w' hA.size (hA.ml.ext hw)) (fun x1 wa wb hx1 hx2 _ ⟨u, e1, hO⟩ => ?_)
  subst e1
  have hxb := hx1.trans hx2
  have hAb := hA.ext hxb
  cases hp : partsOf s with
  | none =>
    rw [hp] at hO
    repeat (first | refine jC ?_ | refine jN ?_ | refine jS ?_ | refine jR ?_ | refine jT ?_ | refine jB ?_ | refine jX rfl ?_ | refine jY rfl ?_ | refine jK ?_ | refine jD ?_ | refine jE ?_)
    exact EndV.val (by rw [findF, hp]) hxb
  | some l =>
  rw [hp] at hO
  obtain ⟨pad, pcap, g, e2, hR, _, _⟩ := hO
  simp only [Option.getD_some] at e2 hR
  subst e2
  obtain ⟨_, _, e3, hplc, hpcm, hpat⟩ := id hR
  rw [List.length_map] at e3 hplc hpat
  cases e3
  have hl6 := (partsOf_iff.1 hp).1.1
  repeat (first | refine jC ?_ | refine jN ?_ | refine jS ?_ | refine jR ?_ | refine jT ?_ | refine jB ?_ | refine jX rfl ?_ | refine jY rfl ?_ | refine jK ?_ | refine jD ?_ | refine jE ?_)
  refine CallV.val (fun w' hw _ => iTreeValid_vc ts v w' (hAb.tree.ext hw) hA.sized hA.wf) ?_
  repeat (first | refine jC ?_ | refine jN ?_ | refine jS ?_ | refine jR ?_ | refine jT ?_ | refine jB ?_ | refine jX rfl ?_ | refine jY rfl ?_ | refine jK ?_ | refine jD ?_ | refine jE ?_)
  refine Br.intro (fun h => ?_) (fun h => ?_)
  · have h : treeB ts = false := by simpa using h
    repeat (first | refine jC ?_ | refine jN ?_ | refine jS ?_ | refine jR ?_ | refine jT ?_ | refine jB ?_ | refine jX rfl ?_ | refine jY rfl ?_ | refine jK ?_ | refine jD ?_ | refine jE ?_)
    exact EndV.val (by rw [findF, hp, h]; rfl) hxb
  have h : treeB ts = true := by simpa using h
  have hT := treeB_iff.1 h
  repeat (first | refine jC ?_ | refine jN ?_ | refine jS ?_ | refine jR ?_ | refine jT ?_ | refine jB ?_ | refine jX rfl ?_ | refine jY rfl ?_ | refine jK ?_ | refine jD ?_ | refine jE ?_)
  refine CallV.val (fun w' _ _ => iCredValid_any c w') ?_
  repeat (first | refine jC ?_ | refine jN ?_ | refine jS ?_ | refine jR ?_ | refine jT ?_ | refine jB ?_ | refine jX rfl ?_ | refine jY rfl ?_ | refine jK ?_ | refine jD ?_ | refine jE ?_)
  refine Br.intro (fun h2 => ?_) (fun h2 => ?_)
  · have h2 : c.ok = false := by simpa using h2
    repeat (first | refine jC ?_ | refine jN ?_ | refine jS ?_ | refine jR ?_ | refine jT ?_ | refine jB ?_ | refine jX rfl ?_ | refine jY rfl ?_ | refine jK ?_ | refine jD ?_ | refine jE ?_)
    exact EndV.val (by rw [findF, hp, h, h2]; rfl) hxb
  have h2 : c.ok = true := by simpa using h2
  have hf : findF ts c s = findGo ts c 0 l := by rw [findF, hp, h, h2]; rfl
  obtain ⟨ad, cap, rfl, hat⟩ := hAb.tree.node
  repeat (first | refine jC ?_ | refine jN ?_ | refine jS ?_ | refine jR ?_ | refine jT ?_ | refine jB ?_ | refine jX rfl ?_ | refine jY rfl ?_ | refine jK ?_ | refine jD ?_ | refine jE ?_)
  refine WpC.loop (α := Nat × Nat) (fun x => ⟨[(0, .v (.slice ad ts.length cap)), (4, .own 0 0), (10, .v (.int .i64 (x.2 : Int))), (31, .v (.slice pad l.length pcap)), (32, .v (.int .i64 (l.length : Int))), (33, .v (.int .i64 (x.1 : Int)))], [⟨b, [.int .i64 c.real, .int .i64 c.acts, .int .i64 c.saved, .int .i64 c.groups], 30⟩], wb⟩)
    (fun x => x.1 ≤ l.length ∧ x.2 < ts.length ∧ findGo ts c x.2 (l.drop x.1) = findF ts c s) (fun x => l.length - x.1) (0, 0) ⟨Nat.zero_le _, hT.lo, hf.symm⟩ ⟨⟨rfl, rfl, rfl, rfl, rfl, rfl, trivial⟩, ⟨rfl, trivial⟩, ⟨rfl, trivial⟩, Vc.Ext.refl _⟩ ?_
  rintro ⟨k, i⟩ ⟨hk, hi, hg⟩
  dsimp only at hk hi hg ⊢
  repeat (first | refine jC ?_ | refine jN ?_ | refine jS ?_ | refine jR ?_ | refine jT ?_ | refine jB ?_ | refine jX rfl ?_ | refine jY rfl ?_ | refine jK ?_ | refine jD ?_ | refine jE ?_)
  refine Br.intro (fun h => ?_) (fun h => ?_)
  · have hlt : k < l.length := by have := of_decide_eq_true h; omega
    obtain ⟨pb, po, rfl, hpc⟩ := hpat (by omega)
    have hu : l[k]? = some l[k] := List.getElem?_eq_getElem hlt
    have hni : ts[i]? = some ts[i] := List.getElem?_eq_getElem hi
    rw [List.drop_eq_getElem_cons hlt, findGo, Int.toNat_natCast, hni] at hg
    simp only at hg
    generalize l[k] = nm at hu hg
    generalize ts[i] = n at hni hg
    obtain ⟨nb, no, nv, kv, rfl, hcn, hN⟩ := hat i n hni
    have hok := hT.nodes i n hni
    have hsz := hA.sized.at hni
    repeat (first | refine jC ?_ | refine jN ?_ | refine jS ?_ | refine jR ?_ | refine jT ?_ | refine jB ?_ | refine jX rfl ?_ | refine jY rfl ?_ | refine jK ?_ | refine jD ?_ | refine jE ?_)
    refine Ix.mk k rfl hlt ?_
    repeat (first | refine jC ?_ | refine jN ?_ | refine jS ?_ | refine jR ?_ | refine jT ?_ | refine jB ?_ | refine jX rfl ?_ | refine jY rfl ?_ | refine jK ?_ | refine jD ?_ | refine jE ?_)
    refine Ld.mk (hpc.out k _ (strs_get hu)) ?_
    repeat (first | refine jC ?_ | refine jN ?_ | refine jS ?_ | refine jR ?_ | refine jT ?_ | refine jB ?_ | refine jX rfl ?_ | refine jY rfl ?_ | refine jK ?_ | refine jD ?_ | refine jE ?_)
    refine Ix.mk i rfl hi ?_
    repeat (first | refine jC ?_ | refine jN ?_ | refine jS ?_ | refine jR ?_ | refine jT ?_ | refine jB ?_ | refine jX rfl ?_ | refine jY rfl ?_ | refine jK ?_ | refine jD ?_ | refine jE ?_)
    refine LdN.mk hcn rfl ?_
    repeat (first | refine jC ?_ | refine jN ?_ | refine jS ?_ | refine jR ?_ | refine jT ?_ | refine jB ?_ | refine jX rfl ?_ | refine jY rfl ?_ | refine jK ?_ | refine jD ?_ | refine jE ?_)
    refine CallV.val (fun w' hw _ => iKid_vc n nv kv nm w' (hN.ext hw) hok.asc' hsz.1 hok.len) ?_
    repeat (first | refine jC ?_ | refine jN ?_ | refine jS ?_ | refine jR ?_ | refine jT ?_ | refine jB ?_ | refine jX rfl ?_ | refine jY rfl ?_ | refine jK ?_ | refine jD ?_ | refine jE ?_)
    refine Ix.mk i rfl hi ?_
    repeat (first | refine jC ?_ | refine jN ?_ | refine jS ?_ | refine jR ?_ | refine jT ?_ | refine jB ?_ | refine jX rfl ?_ | refine jY rfl ?_ | refine jK ?_ | refine jD ?_ | refine jE ?_)
    refine Ld.mk (hcn.out 0 _ rfl) ?_
    repeat (first | refine jC ?_ | refine jN ?_ | refine jS ?_ | refine jR ?_ | refine jT ?_ | refine jB ?_ | refine jX rfl ?_ | refine jY rfl ?_ | refine jK ?_ | refine jD ?_ | refine jE ?_)
    refine Br.intro (fun h3 => ?_) (fun h3 => ?_)
    · have h3 : n.folder = false := by simpa using h3
      rw [if_pos h3] at hg
      repeat (first | refine jC ?_ | refine jN ?_ | refine jS ?_ | refine jR ?_ | refine jT ?_ | refine jB ?_ | refine jX rfl ?_ | refine jY rfl ?_ | refine jK ?_ | refine jD ?_ | refine jE ?_)
      exact EndV.val (by rw [← hg]) hxb
    have h3 : n.folder = true := by simpa using h3
    rw [if_neg (by simp [h3])] at hg
    repeat (first | refine jC ?_ | refine jN ?_ | refine jS ?_ | refine jR ?_ | refine jT ?_ | refine jB ?_ | refine jX rfl ?_ | refine jY rfl ?_ | refine jK ?_ | refine jD ?_ | refine jE ?_)
    refine WpC.draw (by kernel_rfl) ?_
    repeat (first | refine jC ?_ | refine jN ?_ | refine jS ?_ | refine jR ?_ | refine jT ?_ | refine jB ?_ | refine jX rfl ?_ | refine jY rfl ?_ | refine jK ?_ | refine jD ?_ | refine jE ?_)
    refine Ix.mk i rfl hi ?_
    repeat (first | refine jC ?_ | refine jN ?_ | refine jS ?_ | refine jR ?_ | refine jT ?_ | refine jB ?_ | refine jX rfl ?_ | refine jY rfl ?_ | refine jK ?_ | refine jD ?_ | refine jE ?_)
    refine LdN.mk hcn rfl ?_
    repeat (first | refine jC ?_ | refine jN ?_ | refine jS ?_ | refine jR ?_ | refine jT ?_ | refine jB ?_ | refine jX rfl ?_ | refine jY rfl ?_ | refine jK ?_ | refine jD ?_ | refine jE ?_)
    refine QCallV.val (fun w' _ _ => allows_vc n nv kv c 1 w' hok (by decide)) ?_
    repeat (first | refine jC ?_ | refine jN ?_ | refine jS ?_ | refine jR ?_ | refine jT ?_ | refine jB ?_ | refine jX rfl ?_ | refine jY rfl ?_ | refine jK ?_ | refine jD ?_ | refine jE ?_)
    refine Br.intro (fun h4 => ?_) (fun h4 => ?_)
    · have h4 : mayN c n 1 = false := by simpa using h4
      rw [if_pos h4] at hg
      repeat (first | refine jC ?_ | refine jN ?_ | refine jS ?_ | refine jR ?_ | refine jT ?_ | refine jB ?_ | refine jX rfl ?_ | refine jY rfl ?_ | refine jK ?_ | refine jD ?_ | refine jE ?_)
      exact EndV.val (by rw [← hg]) hxb
    have h4 : mayN c n 1 = true := by simpa using h4
    rw [if_neg (by simp [h4])] at hg
    repeat (first | refine jC ?_ | refine jN ?_ | refine jS ?_ | refine jR ?_ | refine jT ?_ | refine jB ?_ | refine jX rfl ?_ | refine jY rfl ?_ | refine jK ?_ | refine jD ?_ | refine jE ?_)
    refine Br.intro (fun h5 => ?_) (fun h5 => ?_)
    · rw [if_pos (of_decide_eq_true h5)] at hg
      repeat (first | refine jC ?_ | refine jN ?_ | refine jS ?_ | refine jR ?_ | refine jT ?_ | refine jB ?_ | refine jX rfl ?_ | refine jY rfl ?_ | refine jK ?_ | refine jD ?_ | refine jE ?_)
      exact EndV.val (by rw [← hg]) hxb
    have h5 := of_decide_eq_false h5
    rw [if_neg h5] at hg
    obtain ⟨j, hj, hjl⟩ := kid_in hT hni h5
    rw [hj] at hg ⊢
    repeat (first | refine jC ?_ | refine jN ?_ | refine jS ?_ | refine jR ?_ | refine jT ?_ | refine jB ?_ | refine jX rfl ?_ | refine jY rfl ?_ | refine jK ?_ | refine jD ?_ | refine jE ?_)
    refine ⟨I64.mk (by omega), ?_⟩
    repeat (first | refine jC ?_ | refine jN ?_ | refine jS ?_ | refine jR ?_ | refine jT ?_ | refine jB ?_ | refine jX rfl ?_ | refine jY rfl ?_ | refine jK ?_ | refine jD ?_ | refine jE ?_)
    exact ⟨(k + 1, j), ⟨hlt, hjl, hg⟩, by show l.length - (k + 1) < l.length - k; omega, ⟨rfl, rfl, rfl, rfl, rfl, rfl, trivial⟩, ⟨rfl, trivial⟩, ⟨rfl, trivial⟩, Vc.Ext.refl _⟩
  · have hke : k = l.length := by have := of_decide_eq_false h; omega
    subst hke
    rw [List.drop_length, findGo] at hg
    repeat (first | refine jC ?_ | refine jN ?_ | refine jS ?_ | refine jR ?_ | refine jT ?_ | refine jB ?_ | refine jX rfl ?_ | refine jY rfl ?_ | refine jK ?_ | refine jD ?_ | refine jE ?_)
    exact EndV.val (by rw [← hg]) hxb
set_option maxHeartbeats 1000000 in
theorem sFindNode_vc (ts : List Nd) (v : Value) (c : Cr) (s : ByteArray) (w : World) (hA : Ask w v ts s) :
    Gives Tryz.prog 30 #[v, c.v, .string s] w (two (findF ts c s)) := by
  refine calls_of cx_ok Tryz.func30 Tryz.ntmps30 Tryz.results30 rfl rfl ?_
  repeat (first | refine jC ?_ | refine jN ?_ | refine jS ?_ | refine jR ?_ | refine jT ?_ | refine jB ?_ | refine jX rfl ?_ | refine jY rfl ?_ | refine jK ?_ | refine jD ?_ | refine jE ?_)
  intro b hb
  repeat (first | refine jC ?_ | refine jN ?_ | refine jS ?_ | refine jR ?_ | refine jT ?_ | refine jB ?_ | refine jX rfl ?_ | refine jY rfl ?_ | refine jK ?_ | refine jD ?_ | refine jE ?_)
  refine CallV.mem _ (fun w' hw _ => sPathParts_vc s w' hA.size) (fun x1 wa wb hx1 hx2 _ ⟨u, e1, hO⟩ => ?_)
  subst e1
  have hxb := hx1.trans hx2
  have hAb := hA.ext hxb
  cases hp : partsOf s with
  | none =>
    rw [hp] at hO
    repeat (first | refine jC ?_ | refine jN ?_ | refine jS ?_ | refine jR ?_ | refine jT ?_ | refine jB ?_ | refine jX rfl ?_ | refine jY rfl ?_ | refine jK ?_ | refine jD ?_ | refine jE ?_)
    exact EndV.val (by rw [findF, hp]) hxb
  | some l =>
  rw [hp] at hO
  obtain ⟨pad, pcap, g, e2, hR, _, _⟩ := hO
  simp only [Option.getD_some] at e2 hR
  subst e2
  obtain ⟨_, _, e3, hplc, hpcm, hpat⟩ := id hR
  rw [List.length_map] at e3 hplc hpat
  cases e3
  have hl6 := (partsOf_iff.1 hp).1.1
  repeat (first | refine jC ?_ | refine jN ?_ | refine jS ?_ | refine jR ?_ | refine jT ?_ | refine jB ?_ | refine jX rfl ?_ | refine jY rfl ?_ | refine jK ?_ | refine jD ?_ | refine jE ?_)
  refine CallV.val (fun w' hw _ => sTreeValid_vc ts v w' (hAb.tree.ext hw) hA.sized hA.wf) ?_
  repeat (first | refine jC ?_ | refine jN ?_ | refine jS ?_ | refine jR ?_ | refine jT ?_ | refine jB ?_ | refine jX rfl ?_ | refine jY rfl ?_ | refine jK ?_ | refine jD ?_ | refine jE ?_)
  refine Br.intro (fun h => ?_) (fun h => ?_)
  · have h : treeB ts = false := by simpa using h
    repeat (first | refine jC ?_ | refine jN ?_ | refine jS ?_ | refine jR ?_ | refine jT ?_ | refine jB ?_ | refine jX rfl ?_ | refine jY rfl ?_ | refine jK ?_ | refine jD ?_ | refine jE ?_)
    exact EndV.val (by rw [findF, hp, h]; rfl) hxb
  have h : treeB ts = true := by simpa using h
  have hT := treeB_iff.1 h
  repeat (first | refine jC ?_ | refine jN ?_ | refine jS ?_ | refine jR ?_ | refine jT ?_ | refine jB ?_ | refine jX rfl ?_ | refine jY rfl ?_ | refine jK ?_ | refine jD ?_ | refine jE ?_)
  refine CallV.val (fun w' _ _ => sCredValid_any c w') ?_
  repeat (first | refine jC ?_ | refine jN ?_ | refine jS ?_ | refine jR ?_ | refine jT ?_ | refine jB ?_ | refine jX rfl ?_ | refine jY rfl ?_ | refine jK ?_ | refine jD ?_ | refine jE ?_)
  refine Br.intro (fun h2 => ?_) (fun h2 => ?_)
  · have h2 : c.ok = false := by simpa using h2
    repeat (first | refine jC ?_ | refine jN ?_ | refine jS ?_ | refine jR ?_ | refine jT ?_ | refine jB ?_ | refine jX rfl ?_ | refine jY rfl ?_ | refine jK ?_ | refine jD ?_ | refine jE ?_)
    exact EndV.val (by rw [findF, hp, h, h2]; rfl) hxb
  have h2 : c.ok = true := by simpa using h2
  have hf : findF ts c s = findGo ts c 0 l := by rw [findF, hp, h, h2]; rfl
  obtain ⟨ad, cap, rfl, hat⟩ := hAb.tree.node
  repeat (first | refine jC ?_ | refine jN ?_ | refine jS ?_ | refine jR ?_ | refine jT ?_ | refine jB ?_ | refine jX rfl ?_ | refine jY rfl ?_ | refine jK ?_ | refine jD ?_ | refine jE ?_)
  refine WpC.loop (α := Nat × Nat) (fun x => ⟨[(0, .v (.slice ad ts.length cap)), (4, .own 0 0), (8, .v (.slice pad l.length pcap)), (10, .v (.int .i64 (x.2 : Int))), (11, .v (.int .i64 (x.1 : Int)))], [⟨b, [.int .i64 c.real, .int .i64 c.acts, .int .i64 c.saved, .int .i64 c.groups], 30⟩], wb⟩)
    (fun x => x.1 ≤ l.length ∧ x.2 < ts.length ∧ findGo ts c x.2 (l.drop x.1) = findF ts c s) (fun x => l.length - x.1) (0, 0) ⟨Nat.zero_le _, hT.lo, hf.symm⟩ ⟨⟨rfl, rfl, rfl, rfl, rfl, trivial⟩, ⟨rfl, trivial⟩, ⟨rfl, trivial⟩, Vc.Ext.refl _⟩ ?_
  rintro ⟨k, i⟩ ⟨hk, hi, hg⟩
  dsimp only at hk hi hg ⊢
  repeat (first | refine jC ?_ | refine jN ?_ | refine jS ?_ | refine jR ?_ | refine jT ?_ | refine jB ?_ | refine jX rfl ?_ | refine jY rfl ?_ | refine jK ?_ | refine jD ?_ | refine jE ?_)
  refine Br.intro (fun h => ?_) (fun h => ?_)
  · have hlt : k < l.length := by have := of_decide_eq_true h; omega
    obtain ⟨pb, po, rfl, hpc⟩ := hpat (by omega)
    have hu : l[k]? = some l[k] := List.getElem?_eq_getElem hlt
    have hni : ts[i]? = some ts[i] := List.getElem?_eq_getElem hi
    rw [List.drop_eq_getElem_cons hlt, findGo, Int.toNat_natCast, hni] at hg
    simp only at hg
    generalize l[k] = nm at hu hg
    generalize ts[i] = n at hni hg
    obtain ⟨nb, no, nv, kv, rfl, hcn, hN⟩ := hat i n hni
    have hok := hT.nodes i n hni
    have hsz := hA.sized.at hni
    repeat (first | refine jC ?_ | refine jN ?_ | refine jS ?_ | refine jR ?_ | refine jT ?_ | refine jB ?_ | refine jX rfl ?_ | refine jY rfl ?_ | refine jK ?_ | refine jD ?_ | refine jE ?_)
    refine Ix.mk i rfl hi ?_
    repeat (first | refine jC ?_ | refine jN ?_ | refine jS ?_ | refine jR ?_ | refine jT ?_ | refine jB ?_ | refine jX rfl ?_ | refine jY rfl ?_ | refine jK ?_ | refine jD ?_ | refine jE ?_)
    refine Ld.mk (hcn.out 0 _ rfl) ?_
    repeat (first | refine jC ?_ | refine jN ?_ | refine jS ?_ | refine jR ?_ | refine jT ?_ | refine jB ?_ | refine jX rfl ?_ | refine jY rfl ?_ | refine jK ?_ | refine jD ?_ | refine jE ?_)
    refine Br.intro (fun h3 => ?_) (fun h3 => ?_)
    · have h3 : n.folder = false := by simpa using h3
      rw [if_pos h3] at hg
      repeat (first | refine jC ?_ | refine jN ?_ | refine jS ?_ | refine jR ?_ | refine jT ?_ | refine jB ?_ | refine jX rfl ?_ | refine jY rfl ?_ | refine jK ?_ | refine jD ?_ | refine jE ?_)
      exact EndV.val (by rw [← hg]) hxb
    have h3 : n.folder = true := by simpa using h3
    rw [if_neg (by simp [h3])] at hg
    repeat (first | refine jC ?_ | refine jN ?_ | refine jS ?_ | refine jR ?_ | refine jT ?_ | refine jB ?_ | refine jX rfl ?_ | refine jY rfl ?_ | refine jK ?_ | refine jD ?_ | refine jE ?_)
    refine WpC.draw (by kernel_rfl) ?_
    repeat (first | refine jC ?_ | refine jN ?_ | refine jS ?_ | refine jR ?_ | refine jT ?_ | refine jB ?_ | refine jX rfl ?_ | refine jY rfl ?_ | refine jK ?_ | refine jD ?_ | refine jE ?_)
    refine Ix.mk i rfl hi ?_
    repeat (first | refine jC ?_ | refine jN ?_ | refine jS ?_ | refine jR ?_ | refine jT ?_ | refine jB ?_ | refine jX rfl ?_ | refine jY rfl ?_ | refine jK ?_ | refine jD ?_ | refine jE ?_)
    refine LdN.mk hcn rfl ?_
    repeat (first | refine jC ?_ | refine jN ?_ | refine jS ?_ | refine jR ?_ | refine jT ?_ | refine jB ?_ | refine jX rfl ?_ | refine jY rfl ?_ | refine jK ?_ | refine jD ?_ | refine jE ?_)
    refine QCallV.val (fun w' _ _ => sMay_vc n nv kv c 1 w' h2 hok (by decide)) ?_
    repeat (first | refine jC ?_ | refine jN ?_ | refine jS ?_ | refine jR ?_ | refine jT ?_ | refine jB ?_ | refine jX rfl ?_ | refine jY rfl ?_ | refine jK ?_ | refine jD ?_ | refine jE ?_)
    refine Br.intro (fun h4 => ?_) (fun h4 => ?_)
    · have h4 : mayN c n 1 = false := by simpa using h4
      rw [if_pos h4] at hg
      repeat (first | refine jC ?_ | refine jN ?_ | refine jS ?_ | refine jR ?_ | refine jT ?_ | refine jB ?_ | refine jX rfl ?_ | refine jY rfl ?_ | refine jK ?_ | refine jD ?_ | refine jE ?_)
      exact EndV.val (by rw [← hg]) hxb
    have h4 : mayN c n 1 = true := by simpa using h4
    rw [if_neg (by simp [h4])] at hg
    repeat (first | refine jC ?_ | refine jN ?_ | refine jS ?_ | refine jR ?_ | refine jT ?_ | refine jB ?_ | refine jX rfl ?_ | refine jY rfl ?_ | refine jK ?_ | refine jD ?_ | refine jE ?_)
    refine WpC.draw (by kernel_rfl) ?_
    repeat (first | refine jC ?_ | refine jN ?_ | refine jS ?_ | refine jR ?_ | refine jT ?_ | refine jB ?_ | refine jX rfl ?_ | refine jY rfl ?_ | refine jK ?_ | refine jD ?_ | refine jE ?_)
    refine Ix.mk i rfl hi ?_
    repeat (first | refine jC ?_ | refine jN ?_ | refine jS ?_ | refine jR ?_ | refine jT ?_ | refine jB ?_ | refine jX rfl ?_ | refine jY rfl ?_ | refine jK ?_ | refine jD ?_ | refine jE ?_)
    refine LdN.mk hcn rfl ?_
    repeat (first | refine jC ?_ | refine jN ?_ | refine jS ?_ | refine jR ?_ | refine jT ?_ | refine jB ?_ | refine jX rfl ?_ | refine jY rfl ?_ | refine jK ?_ | refine jD ?_ | refine jE ?_)
    refine Ix.mk k rfl hlt ?_
    repeat (first | refine jC ?_ | refine jN ?_ | refine jS ?_ | refine jR ?_ | refine jT ?_ | refine jB ?_ | refine jX rfl ?_ | refine jY rfl ?_ | refine jK ?_ | refine jD ?_ | refine jE ?_)
    refine Ld.mk (hpc.out k _ (strs_get hu)) ?_
    repeat (first | refine jC ?_ | refine jN ?_ | refine jS ?_ | refine jR ?_ | refine jT ?_ | refine jB ?_ | refine jX rfl ?_ | refine jY rfl ?_ | refine jK ?_ | refine jD ?_ | refine jE ?_)
    refine QCallV.val (fun w' hw _ => sKid_vc n nv kv nm w' (hN.ext hw) hsz.1 hok.len) ?_
    repeat (first | refine jC ?_ | refine jN ?_ | refine jS ?_ | refine jR ?_ | refine jT ?_ | refine jB ?_ | refine jX rfl ?_ | refine jY rfl ?_ | refine jK ?_ | refine jD ?_ | refine jE ?_)
    refine Br.intro (fun h5 => ?_) (fun h5 => ?_)
    · rw [if_pos (of_decide_eq_true h5)] at hg
      repeat (first | refine jC ?_ | refine jN ?_ | refine jS ?_ | refine jR ?_ | refine jT ?_ | refine jB ?_ | refine jX rfl ?_ | refine jY rfl ?_ | refine jK ?_ | refine jD ?_ | refine jE ?_)
      exact EndV.val (by rw [← hg]) hxb
    have h5 := of_decide_eq_false h5
    rw [if_neg h5] at hg
    obtain ⟨j, hj, hjl⟩ := kid_in hT hni h5
    rw [hj] at hg ⊢
    repeat (first | refine jC ?_ | refine jN ?_ | refine jS ?_ | refine jR ?_ | refine jT ?_ | refine jB ?_ | refine jX rfl ?_ | refine jY rfl ?_ | refine jK ?_ | refine jD ?_ | refine jE ?_)
    refine ⟨I64.mk (by omega), ?_⟩
    repeat (first | refine jC ?_ | refine jN ?_ | refine jS ?_ | refine jR ?_ | refine jT ?_ | refine jB ?_ | refine jX rfl ?_ | refine jY rfl ?_ | refine jK ?_ | refine jD ?_ | refine jE ?_)
    exact ⟨(k + 1, j), ⟨hlt, hjl, hg⟩, by show l.length - (k + 1) < l.length - k; omega, ⟨rfl, rfl, rfl, rfl, rfl, trivial⟩, ⟨rfl, trivial⟩, ⟨rfl, trivial⟩, Vc.Ext.refl _⟩
  · have hke : k = l.length := by have := of_decide_eq_false h; omega
    subst hke
    rw [List.drop_length, findGo] at hg
    repeat (first | refine jC ?_ | refine jN ?_ | refine jS ?_ | refine jR ?_ | refine jT ?_ | refine jB ?_ | refine jX rfl ?_ | refine jY rfl ?_ | refine jK ?_ | refine jD ?_ | refine jE ?_)
    exact EndV.val (by rw [← hg]) hxb
end Go.Proofs.YtbnjjpgacemicaaGreatDoor
