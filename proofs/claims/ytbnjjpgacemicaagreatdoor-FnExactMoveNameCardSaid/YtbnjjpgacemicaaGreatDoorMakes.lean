/-
  Contracts: MakeNode, LinkName; the program's and the reference's.
  Conditions: bounds; the library's variable MaxLen holds some number.
-/
import Derived.Test.YtbnjjpgacemicaaGreatDoorPutS
import Derived.Test.YtbnjjpgacemicaaGreatDoorTurns
namespace Go.Proofs.YtbnjjpgacemicaaGreatDoor
open Go.RowKit Vc
set_option linter.unusedVariables false
set_option maxHeartbeats 2000000
attribute [local irreducible] WpC WpL WpD WpE WpB CallV QCallV Made AppV Ld LdN Ix EndV I64 MutN Mut CellsAt

def newN (c : Cr) (folder : Bool) (g mode : Int) : Nd := ⟨folder, c.acts, g, mode, ⟨#[]⟩, [], []⟩
def makeF (a : Abv) (ts : List Nd) (c : Cr) (folder : Bool) (mode : Int) : List Nd × Int := if inR mode 0 1023 = false then ([], 1) else if (placeF a ts).2 ≠ 0 then ([], (placeF a ts).2) else if ts.length = 16 then ([], 6) else match ts[(placeF a ts).1.toNat]? with
  | none => ([], 0)
  | some n => (ts.set (placeF a ts).1.toNat (n.put a.nm (ts.length : Int)) ++ [newN c folder n.group mode], 0)
theorem place_cases (ts : List Nd) (c : Cr) (s : ByteArray) : (∃ f : Int, placeF (abvF ts c s) ts = (-1, f) ∧ 1 ≤ f ∧ f ≤ 5) ∨
    (∃ (k : Nat) (n : Nd) (x : ByteArray × ByteArray), aboveOf s = some x ∧ abvF ts c s = ⟨(k : Int), x.2, 0⟩ ∧ placeF (abvF ts c s) ts = ((k : Int), 0) ∧ ts[k]? = some n ∧ k < ts.length ∧ TreeOk ts ∧ n.Ok) := by
  rcases abv_cases ts c s with ⟨f, he, h1, h4⟩ | ⟨k, n, x, hab, hfi, he, hn, hk, hT, hc, hok, hfo, hma⟩
  · refine .inl ⟨f, ?_, h1, by omega⟩
    rw [he, placeF]; simp only; rw [if_pos (by omega)]
  · have e : placeF ⟨(k : Int), x.2, 0⟩ ts = if 0 ≤ n.kid x.2 then (-1, 5) else ((k : Int), 0) := by rw [placeF, if_neg (by simp)]; simp [hn]
    by_cases h : 0 ≤ n.kid x.2
    · rw [if_pos h] at e
      exact .inl ⟨5, by rw [he, e], by omega, by omega⟩
    · rw [if_neg h] at e
      exact .inr ⟨k, n, x, hab, he, by rw [he, e], hn, hk, hT, hok⟩
theorem make_at {a : Abv} {ts : List Nd} {c : Cr} {folder : Bool} {mode : Int} {k : Nat} {n : Nd} (hm : inR mode 0 1023 = true) (hp : placeF a ts = ((k : Int), 0)) (hn : ts[k]? = some n) : makeF a ts c folder mode = if ts.length = 16 then ([], 6) else (ts.set k (n.put a.nm (ts.length : Int)) ++ [newN c folder n.group mode], 0) := by
  rw [makeF, hp, if_neg (by simp [hm]), if_neg (by simp)]; simp [hn]
def linkF (f : Int × Int) (a : Abv) (ts : List Nd) : List Nd × Int := if f.2 ≠ 0 then ([], f.2) else match ts[f.1.toNat]? with
  | none => ([], 0)
  | some m => if m.folder then ([], 4) else if (placeF a ts).2 ≠ 0 then ([], (placeF a ts).2) else match ts[(placeF a ts).1.toNat]? with
    | none => ([], 0)
    | some n => (ts.set (placeF a ts).1.toNat (n.put a.nm f.1), 0)
/-- One node turns wholly. -/
theorem TB.setN {lo hi : Nat} {w : World} {ad : Option Addr} {cap g k : Nat} {ts : List Nd} {bl : Nat → Bool → Nat} {pv : Nat → Bool → Value} (h : TB lo hi w ad cap g ts bl pv) {n n' : Nd} {v1 v2 : Value} {g1 g2 : Nat} (hk : ts[k]? = some n) (hh : hi ≤ w.heap.size)
    (hB1 : BufS hi w.heap.size w v1 n'.names.length 1 (strs n'.names) g1) (hB2 : BufS hi w.heap.size w v2 n'.kids.length 1 (ints n'.kids) g2) (hne : 0 < capV v1 → 0 < capV v2 → g1 ≠ g2) :
    TB lo (setL w g (0 + k * 7) (n'.cells v1 v2)).heap.size (setL w g (0 + k * 7) (n'.cells v1 v2)) ad cap g (ts.set k n') (fun i b => if i = k then cond b g1 g2 else bl i b) (fun i b => if i = k then cond b v1 v2 else pv i b) := by
  have hkl := (List.getElem?_eq_some_iff.1 hk).1
  have hle := h.le
  obtain ⟨_, h1, h2, hm, hcs⟩ := h.at_ (by omega)
  have hX : ExcP (fun j => j = g) w (setL w g (0 + k * 7) (n'.cells v1 v2)) := (ExcP.refl (fun j => j = g) w).setL (S := fun j => j = g) rfl _ _
  have hlo : lo ≤ hi := by omega
  have hmk : MutN w g (0 + k * 7) (n'.cells v1 v2).length := by
    have e : (n'.cells v1 v2).length = 7 := rfl
    rw [e]
    exact hm.sub (k := k * 7) (m := 7) (by omega)
  refine h.turn (n' := n') (p1 := fun b => cond b v1 v2) (b1 := fun b => cond b g1 g2) hk hX hh (by have := hX.size; omega) ⟨MutN.setL _ _ _ hm, ?_, fun i m hik hm' => ?_⟩ (fun i b hi _ hc' e => h.neG i b hi hc' e) (fun b => ?_) hne (fun b hc => ?_)
  · have := CellsAt.setL_in hmk
    rwa [Nat.zero_add] at this ⊢
  · refine (hcs i m hm').setL_out (.inr ?_)
    have e : (m.cells (pv i true) (pv i false)).length = 7 := rfl
    have e' : (n'.cells v1 v2).length = 7 := rfl
    rw [e, e']
    omega
  · cases b
    · exact (hB2.exc hX (fun hc e => by have := (hB2.blk hc).1; omega) (Nat.le_refl _) hX.size).low hlo
    · exact (hB1.exc hX (fun hc e => by have := (hB1.blk hc).1; omega) (Nat.le_refl _) hX.size).low hlo
  · have hge : hi ≤ cond b g1 g2 := by
      cases b
      · exact (hB2.blk hc).1
      · exact (hB1.blk hc).1
    refine ⟨by omega, fun i b' hi' _ hc' => ?_⟩
    have := (h.blk hi' hc').2
    omega
theorem TB.tail {lo hi : Nat} {w : World} {ad : Option Addr} {cap g : Nat} {ts : List Nd} {bl : Nat → Bool → Nat} {pv : Nat → Bool → Value} (h : TB lo hi w ad cap g ts bl pv) : TreeB lo hi w (.slice ad ts.length cap) ts := ⟨ad, cap, g, bl, pv, rfl, h⟩
/-- A node without names at the end. -/
theorem TB.bare {lo : Nat} {w w' : World} {ad : Option Addr} {cap g g' : Nat} {ts : List Nd} {bl : Nat → Bool → Nat} {pv : Nat → Bool → Value} (h : TB lo w.heap.size w ad cap g ts bl pv) {n : Nd} {v' : Value} (e1 : n.names = []) (e2 : n.kids = [])
    (hB : BufS lo w'.heap.size w' v' (ts.length + 1) 7 (flat ts pv 0 ++ n.cells (.slice none 0 0) (.slice none 0 0)) g')
    (hw : (g' = g ∧ 0 < cap ∧ w' = setL w g (ts.length * 7) (n.cells (.slice none 0 0) (.slice none 0 0))) ∨ (w.heap.size ≤ g' ∧ Vc.Ext w w')) :
    TreeB lo w'.heap.size w' v' (ts ++ [n]) :=
  h.push (n := n) (p1 := fun _ => .slice none 0 0) (b1 := fun _ => 0) (fun b => by cases b <;> simp [contN, cont, e1, e2] <;> exact BufS.nil _ _ _ _ _) (fun hc => absurd hc (by simp [capV])) (fun b hc => absurd hc (by simp [capV])) hB hw
theorem addName_at {lo hi : Nat} {w : World} {ad : Option Addr} {cap g k o : Nat} {ts : List Nd} {bl : Nat → Bool → Nat} {pv : Nat → Bool → Value} (ho : o = k * 7) (h : TB lo hi w ad cap g ts bl pv) (hh : hi ≤ w.heap.size) (hlo : lo ≤ w.heap.size) {n : Nd} (x : ByteArray) (kid : Int) (hk : ts[k]? = some n)
    (hkn : n.names.length = n.kids.length) (hl : n.names.length ≤ 8388608) (ha : Asc n.names) :
    Calls Tryz.prog 51 #[.pointer (some ⟨g, o, none⟩), .string x, .int .i64 kid] w fun e w' => ∃ v, e = .returned v ∧ (∃ bl' pv', TB lo w'.heap.size w' ad cap g (ts.set k (n.put x kid)) bl' pv') ∧ ExcP (fun j => lo ≤ j) w w' := by
  subst ho
  exact addName_vc h hh hlo x kid hk hkn hl ha
theorem iMakeNode_vc (ts : List Nd) (v : Value) (c : Cr) (s : ByteArray) (folder : Bool) (mode : Int) (w : World) (hA : Ask w v ts s) : Turns 18 #[v, c.v, .string s, .bool folder, .int .i64 mode] w (makeF (abvF ts c s) ts c folder mode) := by
  have hP := fun w' (hw : Vc.Ext w w') => iPlaceFor_vc ts v c s w' (hA.ext hw)
  unfold Turns
  refine calls_of cx_ok Tryz.func18 Tryz.ntmps18 Tryz.results18 rfl rfl ?_
  repeat (first | refine jC ?_ | refine jN ?_ | refine jS ?_ | refine jR ?_ | refine jT ?_ | refine jB ?_ | refine jX rfl ?_ | refine jY rfl ?_ | refine jK ?_ | refine jD ?_ | refine jE ?_)
  intro b hb
  repeat (first | refine jC ?_ | refine jN ?_)
  refine WpC.plain (fun w0 hx0 hO => ?_)
  have hcb : CellsAt w0 b 0 [.int .i64 c.real, .int .i64 c.acts, .int .i64 c.saved, .int .i64 c.groups] := CellsAt.of_block hO.blk0 fun i v hi => by simpa using hi
  repeat (first | refine jC ?_ | refine jN ?_ | refine jS ?_ | refine jR ?_ | refine jT ?_ | refine jB ?_ | refine jX rfl ?_ | refine jY rfl ?_ | refine jK ?_ | refine jD ?_ | refine jE ?_)
  refine LdN.mk hcb rfl ?_
  repeat (first | refine jC ?_ | refine jN ?_ | refine jS ?_ | refine jR ?_ | refine jT ?_ | refine jB ?_ | refine jX rfl ?_ | refine jY rfl ?_ | refine jK ?_ | refine jD ?_ | refine jE ?_)
  refine CallV.val (fun w' hw _ => hP w' (hx0.trans hw)) ?_
  repeat (first | refine jC ?_ | refine jN ?_ | refine jS ?_ | refine jR ?_ | refine jT ?_ | refine jB ?_ | refine jX rfl ?_ | refine jY rfl ?_ | refine jK ?_ | refine jD ?_ | refine jE ?_)
  refine CallV.val (fun w' _ _ => (isMode_any mode w').of_same) ?_
  repeat (first | refine jC ?_ | refine jN ?_ | refine jS ?_ | refine jR ?_ | refine jT ?_ | refine jB ?_ | refine jX rfl ?_ | refine jY rfl ?_ | refine jK ?_ | refine jD ?_ | refine jE ?_)
  refine Br.intro (fun h => ?_) (fun h => ?_)
  · rw [makeF, if_pos (by simpa using h)]
    repeat (first | refine jC ?_ | refine jN ?_ | refine jS ?_ | refine jR ?_ | refine jT ?_ | refine jB ?_ | refine jX rfl ?_ | refine jY rfl ?_ | refine jK ?_ | refine jD ?_ | refine jE ?_)
    exact EndV.tree (p := ([], 1)) hx0 (TreeB.nil _ _ _)
  have hm : inR mode 0 1023 = true := by simpa using h
  rcases place_cases ts c s with ⟨f, he, h1, h5⟩ | ⟨k, n, x, hab, hav, he, hn, hk, hT, hok⟩
  · rw [makeF, if_neg (by simp [hm]), he]
    simp only
    rw [if_pos (by omega)]
    repeat (first | refine jC ?_ | refine jN ?_ | refine jS ?_ | refine jR ?_ | refine jT ?_ | refine jB ?_ | refine jX rfl ?_ | refine jY rfl ?_ | refine jK ?_ | refine jD ?_ | refine jE ?_)
    refine Br.yes (by simp; omega) ?_
    repeat (first | refine jC ?_ | refine jN ?_ | refine jS ?_ | refine jR ?_ | refine jT ?_ | refine jB ?_ | refine jX rfl ?_ | refine jY rfl ?_ | refine jK ?_ | refine jD ?_ | refine jE ?_)
    exact EndV.tree (p := ([], f)) hx0 (TreeB.nil _ _ _)
  rw [make_at hm he hn, he, hav]
  simp only
  obtain ⟨ad, cap, rfl, hat⟩ := hA.tree.node
  obtain ⟨nb, no, nv, kv, rfl, hcn, hN⟩ := hat k n hn
  have h16 := hT.hi
  repeat (first | refine jC ?_ | refine jN ?_ | refine jS ?_ | refine jR ?_ | refine jT ?_ | refine jB ?_ | refine jX rfl ?_ | refine jY rfl ?_ | refine jK ?_ | refine jD ?_ | refine jE ?_)
  refine Br.intro (fun h2 => ?_) (fun h2 => ?_)
  · rw [if_pos (by have := of_decide_eq_true h2; omega)]
    repeat (first | refine jC ?_ | refine jN ?_ | refine jS ?_ | refine jR ?_ | refine jT ?_ | refine jB ?_ | refine jX rfl ?_ | refine jY rfl ?_ | refine jK ?_ | refine jD ?_ | refine jE ?_)
    exact EndV.tree (p := ([], 6)) hx0 (TreeB.nil _ _ _)
  rw [if_neg (by have := of_decide_eq_false h2; omega)]
  repeat (first | refine jC ?_ | refine jN ?_ | refine jS ?_ | refine jR ?_ | refine jT ?_ | refine jB ?_ | refine jX rfl ?_ | refine jY rfl ?_ | refine jK ?_ | refine jD ?_ | refine jE ?_)
  have hv : aboveV s = .tuple #[.string x.1, .string x.2, .bool true] := by rw [aboveV, hab]
  refine CallV.val (fun w' hw _ => hv ▸ iAboveOf_vc s w' hA.size (hA.ml.ext (hx0.trans hw))) ?_
  repeat (first | refine jC ?_ | refine jN ?_ | refine jS ?_ | refine jR ?_ | refine jT ?_ | refine jB ?_ | refine jX rfl ?_ | refine jY rfl ?_ | refine jK ?_ | refine jD ?_ | refine jE ?_)
  refine WpC.drawE (.st 0 (.st 2 (.st 3 (.st 4 (.st 5 (.st 6 (.st 7 (.st 8 (.st 9 (.st 10 (.st 11 (.ef 1 (.ef 12 (.ef 13 (.st 14 .done) .done) .done) (.ef 12 (.ef 1 (.ef 13 (.st 14 .done) .done) .done) .done))))))))))))) [(0, .mv), (1, .ef), (2, .mv), (5, .mv), (6, .mv), (10, .mv), (12, .ef), (13, .ef), (14, .mv)] (by kernel_rfl) ?_
  repeat (first | refine uM ?_ | refine uR ?_ | refine uE ?_ | refine uB ?_ | refine uA ?_ | refine uD ?_ | refine jC ?_ | refine jN ?_ | refine jS ?_ | refine jR ?_ | refine jT ?_ | refine jB ?_ | refine jX rfl ?_ | refine jY rfl ?_ | refine jK ?_ | refine jD ?_ | refine jE ?_)
  refine Ld.mk (hcb.out 1 _ rfl) ?_
  repeat (first | refine uM ?_ | refine uR ?_ | refine uE ?_ | refine uB ?_ | refine uA ?_ | refine uD ?_ | refine jC ?_ | refine jN ?_ | refine jS ?_ | refine jR ?_ | refine jT ?_ | refine jB ?_ | refine jX rfl ?_ | refine jY rfl ?_ | refine jK ?_ | refine jD ?_ | refine jE ?_)
  refine Ix.mk k rfl hk ?_
  repeat (first | refine uM ?_ | refine uR ?_ | refine uE ?_ | refine uB ?_ | refine uA ?_ | refine uD ?_ | refine jC ?_ | refine jN ?_ | refine jS ?_ | refine jR ?_ | refine jT ?_ | refine jB ?_ | refine jX rfl ?_ | refine jY rfl ?_ | refine jK ?_ | refine jD ?_ | refine jE ?_)
  refine Ld.mk ((hcn.ext hx0).out 2 _ rfl) ?_
  repeat (first | refine uM ?_ | refine uR ?_ | refine uE ?_ | refine uB ?_ | refine uA ?_ | refine uD ?_ | refine jC ?_ | refine jN ?_ | refine jS ?_ | refine jR ?_ | refine jT ?_ | refine jB ?_ | refine jX rfl ?_ | refine jY rfl ?_ | refine jK ?_ | refine jD ?_ | refine jE ?_)
  refine WpE.ef2 (by exact rfl) (by exact rfl) ?_ ?_
  · refine CallV.mem _ (fun w' hw _ => iCopy_vc ts _ w' (hA.tree.ext (hx0.trans hw)) hA.sized) (fun x1 wa wb hx1 hx2 hO hB => ?_)
    obtain ⟨ad', cap', g, bl, pv, rfl, hTB⟩ := hB
    have hlow : w0.heap.size ≤ wa.heap.size := hx1.size
    refine ⟨Keep.ext (hx1.trans hx2), ?_⟩
    repeat (first | refine uM ?_ | refine uR ?_ | refine uE ?_ | refine uB ?_ | refine uA ?_ | refine uD ?_ | refine jC ?_ | refine jN ?_ | refine jS ?_ | refine jR ?_ | refine jT ?_ | refine jB ?_ | refine jX rfl ?_ | refine jY rfl ?_ | refine jK ?_ | refine jD ?_ | refine jE ?_)
    refine Made.mk fun g2 w2 hx6 hg21 hg22 hg23 hne2 => ?_
    have hTB2 := hTB.ext hx6 hx6.size
    have hB2 := hTB2.bufS
    have hcl : CellsAt w2 g2 0 ((newN c folder n.group mode).cells (.slice none 0 0) (.slice none 0 0)) := CellsAt.of_block hg23 fun i v hi => by have hi : [(.bool folder : Value), .int .i64 c.acts, .int .i64 n.group, .int .i64 mode, .string ⟨#[]⟩, .slice none 0 0, .slice none 0 0][i]? = some v := hi; rw [Nat.zero_add]; exact hi
    have hxe := (hx1.trans hx2).trans hx6
    have hlo2 := hx2.size
    refine ⟨Keep.ext hxe, ?_⟩
    repeat (first | refine uM ?_ | refine uR ?_ | refine uE ?_ | refine uB ?_ | refine uA ?_ | refine uD ?_ | refine jC ?_ | refine jN ?_ | refine jS ?_ | refine jR ?_ | refine jT ?_ | refine jB ?_ | refine jX rfl ?_ | refine jY rfl ?_ | refine jK ?_ | refine jD ?_ | refine jE ?_)
    refine AppV.bufS hB2 (by omega) (news := (newN c folder n.group mode).cells (.slice none 0 0) (.slice none 0 0)) hcl rfl (by simp [Value.oneCell']) (fun hc => trivial) (by omega) (by omega) rfl (by have := hTB2.bufS; omega) (Nat.le_refl _) (fun v' A' g' hBv hcv hw => ?_)
    have hbare := hTB2.bare (n := newN c folder n.group mode) rfl rfl hBv hw
    obtain ⟨ad3, cap3, g3, bl3, pv3, rfl, hTB3⟩ := hbare
    have hx3 : Vc.Ext w0 A' := by
      rcases hw with ⟨_, h0, rfl⟩ | ⟨_, hx7⟩
      · exact hxe.trans' (below_setL (Below.refl _ _) (by have := (hTB2.at_ h0).2.1; omega) _ _)
      · exact hxe.trans hx7
    refine ⟨Keep.ext hx3, ?_⟩
    repeat (first | refine uM ?_ | refine uR ?_ | refine uE ?_ | refine uB ?_ | refine uA ?_ | refine uD ?_ | refine jC ?_ | refine jN ?_ | refine jS ?_ | refine jR ?_ | refine jT ?_ | refine jB ?_ | refine jX rfl ?_ | refine jY rfl ?_ | refine jK ?_ | refine jD ?_ | refine jE ?_)
    have hk3 : (ts ++ [newN c folder n.group mode])[k]? = some n := by rw [List.getElem?_append_left hk]; exact hn
    have hl3 : (ts ++ [newN c folder n.group mode]).length = ts.length + 1 := by simp
    obtain ⟨rfl, hlo3, hhi3, hm3, hcs3⟩ := hTB3.open_ (k := k) (by omega)
    refine Ix.mk k rfl (by omega) ?_
    repeat (first | refine jC ?_ | refine jN ?_ | refine jS ?_ | refine jR ?_ | refine jT ?_ | refine jB ?_ | refine jX rfl ?_ | refine jY rfl ?_ | refine jK ?_ | refine jD ?_ | refine jE ?_)
    refine CallV.turn _ (fun w' hw _ => addName_at (Nat.zero_add _) (hTB3.ext hw hw.size) (Nat.le_refl _) (by have := hlow; have := hx3.size; have := hw.size; omega) x.2 (ts.length : Int) hk3 hok.len (hA.sized.at hn).1 hok.asc') (fun u wa wb hxa hΦ => ?_)
    obtain ⟨⟨bl4, pv4, hTB4⟩, hX4⟩ := hΦ
    repeat (first | refine jC ?_ | refine jN ?_ | refine jS ?_ | refine jR ?_ | refine jT ?_ | refine jB ?_ | refine jX rfl ?_ | refine jY rfl ?_ | refine jK ?_ | refine jD ?_ | refine jE ?_)
    have es : (ts ++ [newN c folder n.group mode]).set k (n.put x.2 (ts.length : Int)) = ts.set k (n.put x.2 (ts.length : Int)) ++ [newN c folder n.group mode] := List.set_append_left _ _ hk
    refine EndV.tree (p := (ts.set k (n.put x.2 (ts.length : Int)) ++ [newN c folder n.group mode], 0)) (((hx0.trans hx3).trans hxa).trans' (hX4.below (by have := hx0.size; have := hx3.size; have := hxa.size; omega) fun j hj e => by have := hx0.size; omega)) ?_
    rw [es] at hTB4
    exact ⟨_, _, _, _, _, by simp, hTB4.low (by have := hx0.size; omega)⟩
  · refine WpE.ef (by exact rfl) (by exact rfl) ?_
    refine Made.mk fun g2 w2 hx6 hg21 hg22 hg23 hne2 => ?_
    have hcl0 : CellsAt w2 g2 0 ((newN c folder n.group mode).cells (.slice none 0 0) (.slice none 0 0)) := CellsAt.of_block hg23 fun i v hi => by have hi : [(.bool folder : Value), .int .i64 c.acts, .int .i64 n.group, .int .i64 mode, .string ⟨#[]⟩, .slice none 0 0, .slice none 0 0][i]? = some v := hi; rw [Nat.zero_add]; exact hi
    refine ⟨Keep.ext hx6, ?_⟩
    repeat (first | refine uM ?_ | refine uR ?_ | refine uE ?_ | refine uB ?_ | refine uA ?_ | refine uD ?_ | refine jC ?_ | refine jN ?_ | refine jS ?_ | refine jR ?_ | refine jT ?_ | refine jB ?_ | refine jX rfl ?_ | refine jY rfl ?_ | refine jK ?_ | refine jD ?_ | refine jE ?_)
    refine CallV.mem _ (fun w' hw _ => iCopy_vc ts _ w' (hA.tree.ext ((hx0.trans hx6).trans hw)) hA.sized) (fun x1 wa wb hx1 hx2 hO hB => ?_)
    obtain ⟨ad', cap', g, bl, pv, rfl, hTB2⟩ := hB
    have hlow : w0.heap.size ≤ wa.heap.size := by have := hx6.size; have := hx1.size; omega
    have hB2 := hTB2.bufS
    have hxe := (hx6.trans hx1).trans hx2
    have hcl := hcl0.ext (hx1.trans hx2)
    have hlo2 := hx2.size
    refine ⟨Keep.ext hxe, ?_⟩
    repeat (first | refine uM ?_ | refine uR ?_ | refine uE ?_ | refine uB ?_ | refine uA ?_ | refine uD ?_ | refine jC ?_ | refine jN ?_ | refine jS ?_ | refine jR ?_ | refine jT ?_ | refine jB ?_ | refine jX rfl ?_ | refine jY rfl ?_ | refine jK ?_ | refine jD ?_ | refine jE ?_)
    refine AppV.bufS hB2 (by omega) (news := (newN c folder n.group mode).cells (.slice none 0 0) (.slice none 0 0)) hcl rfl (by simp [Value.oneCell']) (fun hc => trivial) (by omega) (by omega) rfl (by have := hTB2.bufS; omega) (Nat.le_refl _) (fun v' A' g' hBv hcv hw => ?_)
    have hbare := hTB2.bare (n := newN c folder n.group mode) rfl rfl hBv hw
    obtain ⟨ad3, cap3, g3, bl3, pv3, rfl, hTB3⟩ := hbare
    have hx3 : Vc.Ext w0 A' := by
      rcases hw with ⟨_, h0, rfl⟩ | ⟨_, hx7⟩
      · exact hxe.trans' (below_setL (Below.refl _ _) (by have := (hTB2.at_ h0).2.1; omega) _ _)
      · exact hxe.trans hx7
    refine ⟨Keep.ext hx3, ?_⟩
    repeat (first | refine uM ?_ | refine uR ?_ | refine uE ?_ | refine uB ?_ | refine uA ?_ | refine uD ?_ | refine jC ?_ | refine jN ?_ | refine jS ?_ | refine jR ?_ | refine jT ?_ | refine jB ?_ | refine jX rfl ?_ | refine jY rfl ?_ | refine jK ?_ | refine jD ?_ | refine jE ?_)
    have hk3 : (ts ++ [newN c folder n.group mode])[k]? = some n := by rw [List.getElem?_append_left hk]; exact hn
    have hl3 : (ts ++ [newN c folder n.group mode]).length = ts.length + 1 := by simp
    obtain ⟨rfl, hlo3, hhi3, hm3, hcs3⟩ := hTB3.open_ (k := k) (by omega)
    refine Ix.mk k rfl (by omega) ?_
    repeat (first | refine jC ?_ | refine jN ?_ | refine jS ?_ | refine jR ?_ | refine jT ?_ | refine jB ?_ | refine jX rfl ?_ | refine jY rfl ?_ | refine jK ?_ | refine jD ?_ | refine jE ?_)
    refine CallV.turn _ (fun w' hw _ => addName_at (Nat.zero_add _) (hTB3.ext hw hw.size) (Nat.le_refl _) (by have := hlow; have := hx3.size; have := hw.size; omega) x.2 (ts.length : Int) hk3 hok.len (hA.sized.at hn).1 hok.asc') (fun u wa wb hxa hΦ => ?_)
    obtain ⟨⟨bl4, pv4, hTB4⟩, hX4⟩ := hΦ
    repeat (first | refine jC ?_ | refine jN ?_ | refine jS ?_ | refine jR ?_ | refine jT ?_ | refine jB ?_ | refine jX rfl ?_ | refine jY rfl ?_ | refine jK ?_ | refine jD ?_ | refine jE ?_)
    have es : (ts ++ [newN c folder n.group mode]).set k (n.put x.2 (ts.length : Int)) = ts.set k (n.put x.2 (ts.length : Int)) ++ [newN c folder n.group mode] := List.set_append_left _ _ hk
    refine EndV.tree (p := (ts.set k (n.put x.2 (ts.length : Int)) ++ [newN c folder n.group mode], 0)) (((hx0.trans hx3).trans hxa).trans' (hX4.below (by have := hx0.size; have := hx3.size; have := hxa.size; omega) fun j hj e => by have := hx0.size; omega)) ?_
    rw [es] at hTB4
    exact ⟨_, _, _, _, _, by simp, hTB4.low (by have := hx0.size; omega)⟩
theorem aboveV_some (s : ByteArray) : ∃ x1 x2 x3, aboveV s = .tuple #[.string x1, .string x2, .bool x3] ∧ ∀ x, aboveOf s = some x → x1 = x.1 ∧ x2 = x.2 ∧ x3 = true := by
  cases hab : aboveOf s with
  | none => exact ⟨⟨#[]⟩, ⟨#[]⟩, false, by rw [aboveV, hab], fun x h => by cases h⟩
  | some x => exact ⟨x.1, x.2, true, by rw [aboveV, hab], fun y h => by cases h; exact ⟨rfl, rfl, rfl⟩⟩
theorem sMakeNode_vc (ts : List Nd) (v : Value) (c : Cr) (s : ByteArray) (folder : Bool) (mode : Int) (w : World) (hA : Ask w v ts s) : Turns 17 #[v, c.v, .string s, .bool folder, .int .i64 mode] w (makeF (abvF ts c s) ts c folder mode) := by
  have hP := fun w' (hw : Vc.Ext w w') => sPlaceFor_vc ts v c s w' (hA.ext hw)
  unfold Turns
  obtain ⟨x1, x2, x3, hv, hvs⟩ := aboveV_some s
  refine calls_of cx_ok Tryz.func17 Tryz.ntmps17 Tryz.results17 rfl rfl ?_
  repeat (first | refine jC ?_ | refine jN ?_ | refine jS ?_ | refine jR ?_ | refine jT ?_ | refine jB ?_ | refine jX rfl ?_ | refine jY rfl ?_ | refine jK ?_ | refine jD ?_ | refine jE ?_)
  intro b hb
  repeat (first | refine jC ?_ | refine jN ?_)
  refine WpC.plain (fun w0 hx0 hO => ?_)
  have hcb : CellsAt w0 b 0 [.int .i64 c.real, .int .i64 c.acts, .int .i64 c.saved, .int .i64 c.groups] := CellsAt.of_block hO.blk0 fun i v hi => by simpa using hi
  repeat (first | refine jC ?_ | refine jN ?_ | refine jS ?_ | refine jR ?_ | refine jT ?_ | refine jB ?_ | refine jX rfl ?_ | refine jY rfl ?_ | refine jK ?_ | refine jD ?_ | refine jE ?_)
  refine LdN.mk hcb rfl ?_
  repeat (first | refine jC ?_ | refine jN ?_ | refine jS ?_ | refine jR ?_ | refine jT ?_ | refine jB ?_ | refine jX rfl ?_ | refine jY rfl ?_ | refine jK ?_ | refine jD ?_ | refine jE ?_)
  refine CallV.val (fun w' hw _ => hP w' (hx0.trans hw)) ?_
  repeat (first | refine jC ?_ | refine jN ?_ | refine jS ?_ | refine jR ?_ | refine jT ?_ | refine jB ?_ | refine jX rfl ?_ | refine jY rfl ?_ | refine jK ?_ | refine jD ?_ | refine jE ?_)
  refine CallV.val (fun w' hw _ => hv ▸ sAboveOf_vc s w' hA.size) ?_
  repeat (first | refine jC ?_ | refine jN ?_ | refine jS ?_ | refine jR ?_ | refine jT ?_ | refine jB ?_ | refine jX rfl ?_ | refine jY rfl ?_ | refine jK ?_ | refine jD ?_ | refine jE ?_)
  refine CallV.val (fun w' _ _ => (l1In_any mode 0 1023 w').of_same) ?_
  repeat (first | refine jC ?_ | refine jN ?_ | refine jS ?_ | refine jR ?_ | refine jT ?_ | refine jB ?_ | refine jX rfl ?_ | refine jY rfl ?_ | refine jK ?_ | refine jD ?_ | refine jE ?_)
  refine Br.intro (fun h => ?_) (fun h => ?_)
  · rw [makeF, if_pos (by simpa using h)]
    repeat (first | refine jC ?_ | refine jN ?_ | refine jS ?_ | refine jR ?_ | refine jT ?_ | refine jB ?_ | refine jX rfl ?_ | refine jY rfl ?_ | refine jK ?_ | refine jD ?_ | refine jE ?_)
    refine Made.mk fun g9 w9 hx9 _ _ _ _ => ?_
    repeat (first | refine jC ?_ | refine jN ?_ | refine jS ?_ | refine jR ?_ | refine jT ?_ | refine jB ?_ | refine jX rfl ?_ | refine jY rfl ?_ | refine jK ?_ | refine jD ?_ | refine jE ?_)
    exact EndV.tree (p := ([], 1)) (hx0.trans hx9) (TreeB.empty _ _ _ _ _)
  have hm : inR mode 0 1023 = true := by simpa using h
  rcases place_cases ts c s with ⟨f, he, h1, h5⟩ | ⟨k, n, x, hab, hav, he, hn, hk, hT, hok⟩
  · rw [makeF, if_neg (by simp [hm]), he]
    simp only
    rw [if_pos (by omega)]
    repeat (first | refine jC ?_ | refine jN ?_ | refine jS ?_ | refine jR ?_ | refine jT ?_ | refine jB ?_ | refine jX rfl ?_ | refine jY rfl ?_ | refine jK ?_ | refine jD ?_ | refine jE ?_)
    refine Br.yes (by simp; omega) ?_
    repeat (first | refine jC ?_ | refine jN ?_ | refine jS ?_ | refine jR ?_ | refine jT ?_ | refine jB ?_ | refine jX rfl ?_ | refine jY rfl ?_ | refine jK ?_ | refine jD ?_ | refine jE ?_)
    refine Made.mk fun g9 w9 hx9 _ _ _ _ => ?_
    repeat (first | refine jC ?_ | refine jN ?_ | refine jS ?_ | refine jR ?_ | refine jT ?_ | refine jB ?_ | refine jX rfl ?_ | refine jY rfl ?_ | refine jK ?_ | refine jD ?_ | refine jE ?_)
    exact EndV.tree (p := ([], f)) (hx0.trans hx9) (TreeB.empty _ _ _ _ _)
  obtain ⟨rfl, rfl, rfl⟩ := hvs x hab
  rw [make_at hm he hn, he, hav]
  simp only
  obtain ⟨ad, cap, rfl, hat⟩ := hA.tree.node
  obtain ⟨nb, no, nv, kv, rfl, hcn, hN⟩ := hat k n hn
  have h16 := hT.hi
  repeat (first | refine jC ?_ | refine jN ?_ | refine jS ?_ | refine jR ?_ | refine jT ?_ | refine jB ?_ | refine jX rfl ?_ | refine jY rfl ?_ | refine jK ?_ | refine jD ?_ | refine jE ?_)
  refine Br.intro (fun h2 => ?_) (fun h2 => ?_)
  · rw [if_pos (by have := of_decide_eq_true h2; omega)]
    repeat (first | refine jC ?_ | refine jN ?_ | refine jS ?_ | refine jR ?_ | refine jT ?_ | refine jB ?_ | refine jX rfl ?_ | refine jY rfl ?_ | refine jK ?_ | refine jD ?_ | refine jE ?_)
    refine Made.mk fun g9 w9 hx9 _ _ _ _ => ?_
    repeat (first | refine jC ?_ | refine jN ?_ | refine jS ?_ | refine jR ?_ | refine jT ?_ | refine jB ?_ | refine jX rfl ?_ | refine jY rfl ?_ | refine jK ?_ | refine jD ?_ | refine jE ?_)
    exact EndV.tree (p := ([], 6)) (hx0.trans hx9) (TreeB.empty _ _ _ _ _)
  rw [if_neg (by have := of_decide_eq_false h2; omega)]
  repeat (first | refine jC ?_ | refine jN ?_ | refine jS ?_ | refine jR ?_ | refine jT ?_ | refine jB ?_ | refine jX rfl ?_ | refine jY rfl ?_ | refine jK ?_ | refine jD ?_ | refine jE ?_)
  refine CallV.mem _ (fun w' hw _ => sCopy_vc ts _ w' (hA.tree.ext (hx0.trans hw)) hA.sized) (fun x1 wa wb hx1 hx2 hO hB => ?_)
  obtain ⟨ad', cap', g, bl, pv, rfl, hTB⟩ := hB
  have hlow : w0.heap.size ≤ wa.heap.size := hx1.size
  have hlo2 := hx2.size
  obtain ⟨rfl, hlo3, hhi3, hm3, hcs3⟩ := hTB.open_ hk
  repeat (first | refine jC ?_ | refine jN ?_ | refine jS ?_ | refine jR ?_ | refine jT ?_ | refine jB ?_ | refine jX rfl ?_ | refine jY rfl ?_ | refine jK ?_ | refine jD ?_ | refine jE ?_)
  refine Ix.mk k rfl hk ?_
  repeat (first | refine jC ?_ | refine jN ?_ | refine jS ?_ | refine jR ?_ | refine jT ?_ | refine jB ?_ | refine jX rfl ?_ | refine jY rfl ?_ | refine jK ?_ | refine jD ?_ | refine jE ?_)
  refine LdN.mk (by rw [Nat.zero_add]; exact hcs3 k n hn) rfl ?_
  repeat (first | refine jC ?_ | refine jN ?_ | refine jS ?_ | refine jR ?_ | refine jT ?_ | refine jB ?_ | refine jX rfl ?_ | refine jY rfl ?_ | refine jK ?_ | refine jD ?_ | refine jE ?_)
  refine CallV.mem _ (fun w' hw _ => sPut_vc n _ _ x.2 (ts.length : Int) w' ((hTB.ndIn hn).ext hw) hok.len (hA.sized.at hn).1) (fun x3 wc wd hx3 hx4 hO hP2 => ?_)
  obtain ⟨v1, v2, g1, g2, rfl, hB1, hB2, hne⟩ := hP2
  have hs3 := hx3.size
  have hs4 := hx4.size
  have hTBd := hTB.ext (hx3.trans hx4) (Nat.le_refl _)
  have hmd := (hm3.ext (hx3.trans hx4))
  have hle3 := hTB.le
  have hTBs := hTBd.setN (n' := n.put x.2 (ts.length : Int)) hn (by omega) (hB1.low hs3) (hB2.low hs3) (fun _ _ => hne)
  obtain ⟨ad1, cap1, rfl, _⟩ := id hB1
  obtain ⟨ad2, cap2, rfl, _⟩ := id hB2
  repeat (first | refine jC ?_ | refine jN ?_ | refine jS ?_ | refine jR ?_ | refine jT ?_ | refine jB ?_ | refine jX rfl ?_ | refine jY rfl ?_ | refine jK ?_ | refine jD ?_ | refine jE ?_)
  refine Ix.mk k rfl hk ?_
  repeat (first | refine jC ?_ | refine jN ?_ | refine jS ?_ | refine jR ?_ | refine jT ?_ | refine jB ?_ | refine jX rfl ?_ | refine jY rfl ?_ | refine jK ?_ | refine jD ?_ | refine jE ?_)
  refine ⟨by have := hmd.sub (k := k * 7) (m := 7) (by omega); exact this, trivial, rfl, by simp [Value.oneCell'], ?_⟩
  repeat (first | refine jC ?_ | refine jN ?_)
  refine WpC.now (fun ws hxw _ => ?_)
  have hTBw := hTBs.ext hxw hxw.size
  have hxs : Vc.Ext w0 ws := ((((hx1.trans hx2).trans hx3).trans hx4).trans' (below_setL (Below.refl _ _) (by omega) _ _)).trans hxw
  repeat (first | refine jC ?_ | refine jN ?_ | refine jS ?_ | refine jR ?_ | refine jT ?_ | refine jB ?_ | refine jX rfl ?_ | refine jY rfl ?_ | refine jK ?_ | refine jD ?_ | refine jE ?_)
  refine WpC.drawD (Vc.Ext w0) (fun w' hw => hxs.trans hw) (.st 0 (.st 1 (.st 2 (.st 3 (.st 4 (.st 5 (.st 6 (.st 7 (.st 8 (.st 9 (.st 10 (.ef 11 (.ef 12 (.st 13 (.st 14 .done)) .done) .done)))))))))))) [(0, .mv), (1, .mv), (4, .mv), (5, .mv), (9, .mv), (11, .ef), (12, .ef), (13, .mv), (14, .mv)] (by kernel_rfl) ?_
  repeat (first | refine uM ?_ | refine uR ?_ | refine uE ?_ | refine uB ?_ | refine uA ?_ | refine uD ?_ | refine jC ?_ | refine jN ?_ | refine jS ?_ | refine jR ?_ | refine jT ?_ | refine jB ?_ | refine jX rfl ?_ | refine jY rfl ?_ | refine jK ?_ | refine jD ?_ | refine jE ?_)
  refine Ld.mk (hcb.out 1 _ rfl) ?_
  repeat (first | refine uM ?_ | refine uR ?_ | refine uE ?_ | refine uB ?_ | refine uA ?_ | refine uD ?_ | refine jC ?_ | refine jN ?_ | refine jS ?_ | refine jR ?_ | refine jT ?_ | refine jB ?_ | refine jX rfl ?_ | refine jY rfl ?_ | refine jK ?_ | refine jD ?_ | refine jE ?_)
  refine Ix.mk k rfl hk ?_
  repeat (first | refine uM ?_ | refine uR ?_ | refine uE ?_ | refine uB ?_ | refine uA ?_ | refine uD ?_ | refine jC ?_ | refine jN ?_ | refine jS ?_ | refine jR ?_ | refine jT ?_ | refine jB ?_ | refine jX rfl ?_ | refine jY rfl ?_ | refine jK ?_ | refine jD ?_ | refine jE ?_)
  refine Ld.mk ((hcn.ext hx0).out 2 _ rfl) ?_
  repeat (first | refine uM ?_ | refine uR ?_ | refine uE ?_ | refine uB ?_ | refine uA ?_ | refine uD ?_ | refine jC ?_ | refine jN ?_ | refine jS ?_ | refine jR ?_ | refine jT ?_ | refine jB ?_ | refine jX rfl ?_ | refine jY rfl ?_ | refine jK ?_ | refine jD ?_ | refine jE ?_)
  refine Made.mk fun g2 w2 hx6 hg21 hg22 hg23 hne2 => ?_
  have hTB2 := hTBw.ext hx6 hx6.size
  have hB2 := hTB2.bufS
  rw [show (ts.set k (n.put x.2 (ts.length : Int))).length = ts.length by simp] at hB2
  have hcl : CellsAt w2 g2 0 ((newN c folder n.group mode).cells (.slice none 0 0) (.slice none 0 0)) := CellsAt.of_block hg23 fun i v hi => by have hi : [(.bool folder : Value), .int .i64 c.acts, .int .i64 n.group, .int .i64 mode, .string ⟨#[]⟩, .slice none 0 0, .slice none 0 0][i]? = some v := hi; rw [Nat.zero_add]; exact hi
  refine ⟨Keep.mk fun w' hw' => (hxs.trans hx6).trans hw', ?_⟩
  repeat (first | refine uM ?_ | refine uR ?_ | refine uE ?_ | refine uB ?_ | refine uA ?_ | refine uD ?_ | refine jC ?_ | refine jN ?_ | refine jS ?_ | refine jR ?_ | refine jT ?_ | refine jB ?_ | refine jX rfl ?_ | refine jY rfl ?_ | refine jK ?_ | refine jD ?_ | refine jE ?_)
  have hs6 := hx6.size
  have hsx := hxs.size
  refine AppV.bufS hB2 (by omega) (news := (newN c folder n.group mode).cells (.slice none 0 0) (.slice none 0 0)) hcl rfl (by simp [Value.oneCell']) (fun hc => trivial) (by omega) (by omega) rfl (by have := hxw.size; rw [setL_size] at this; omega) (Nat.le_refl _) (fun v' A' g' hBv hcv hw => ?_)
  have hbare := hTB2.bare (n := newN c folder n.group mode) (v' := v') (w' := A') (g' := g') rfl rfl (by rw [show (ts.set k (n.put x.2 (ts.length : Int))).length = ts.length by simp]; exact hBv) (by rw [show (ts.set k (n.put x.2 (ts.length : Int))).length = ts.length by simp]; exact hw)
  have hx3 : Vc.Ext w0 A' := by
    rcases hw with ⟨_, h0, rfl⟩ | ⟨_, hx7⟩
    · exact (hxs.trans hx6).trans' (below_setL (Below.refl _ _) (by have := (hTB2.at_ h0).2.1; omega) _ _)
    · exact (hxs.trans hx6).trans hx7
  refine ⟨Keep.mk fun w' hw' => hx3.trans hw', ?_⟩
  repeat (first | refine uM ?_ | refine uR ?_ | refine uE ?_ | refine uB ?_ | refine uA ?_ | refine uD ?_ | refine jC ?_ | refine jN ?_ | refine jS ?_ | refine jR ?_ | refine jT ?_ | refine jB ?_ | refine jX rfl ?_ | refine jY rfl ?_ | refine jK ?_ | refine jD ?_ | refine jE ?_)
  exact EndV.tree (p := (ts.set k (n.put x.2 (ts.length : Int)) ++ [newN c folder n.group mode], 0)) (hx0.trans hx3) (hbare.low (by have := hx0.size; omega))
theorem iLinkName_vc (ts : List Nd) (v : Value) (c : Cr) (s s2 : ByteArray) (w : World) (hA : Ask w v ts s) (hA2 : Ask w v ts s2) : Turns 20 #[v, c.v, .string s, .string s2] w (linkF (findF ts c s) (abvF ts c s2) ts) := by
  have hF := fun w' (hw : Vc.Ext w w') => iFindNode_vc ts v c s w' (hA.ext hw)
  have hP := fun w' (hw : Vc.Ext w w') => iPlaceFor_vc ts v c s2 w' (hA2.ext hw)
  unfold Turns
  refine calls_of cx_ok Tryz.func20 Tryz.ntmps20 Tryz.results20 rfl rfl ?_
  repeat (first | refine jC ?_ | refine jN ?_ | refine jS ?_ | refine jR ?_ | refine jT ?_ | refine jB ?_ | refine jX rfl ?_ | refine jY rfl ?_ | refine jK ?_ | refine jD ?_ | refine jE ?_)
  intro b hb
  repeat (first | refine jC ?_ | refine jN ?_)
  refine WpC.plain (fun w0 hx0 hO => ?_)
  have hcb : CellsAt w0 b 0 [.int .i64 c.real, .int .i64 c.acts, .int .i64 c.saved, .int .i64 c.groups] := CellsAt.of_block hO.blk0 fun i v hi => by simpa using hi
  repeat (first | refine jC ?_ | refine jN ?_ | refine jS ?_ | refine jR ?_ | refine jT ?_ | refine jB ?_ | refine jX rfl ?_ | refine jY rfl ?_ | refine jK ?_ | refine jD ?_ | refine jE ?_)
  refine LdN.mk hcb rfl ?_
  repeat (first | refine jC ?_ | refine jN ?_ | refine jS ?_ | refine jR ?_ | refine jT ?_ | refine jB ?_ | refine jX rfl ?_ | refine jY rfl ?_ | refine jK ?_ | refine jD ?_ | refine jE ?_)
  refine CallV.val (fun w' hw _ => hF w' (hx0.trans hw)) ?_
  rcases find_cases ts c s with ⟨f, he, h1, h4⟩ | ⟨kf, nf, he, hnf, hkf, hTf, hc, hokf⟩
  · rw [he, linkF]
    simp only
    rw [if_pos (by omega)]
    repeat (first | refine jC ?_ | refine jN ?_ | refine jS ?_ | refine jR ?_ | refine jT ?_ | refine jB ?_ | refine jX rfl ?_ | refine jY rfl ?_ | refine jK ?_ | refine jD ?_ | refine jE ?_)
    refine Br.yes (by simp; omega) ?_
    repeat (first | refine jC ?_ | refine jN ?_ | refine jS ?_ | refine jR ?_ | refine jT ?_ | refine jB ?_ | refine jX rfl ?_ | refine jY rfl ?_ | refine jK ?_ | refine jD ?_ | refine jE ?_)
    exact EndV.tree (p := ([], f)) hx0 (TreeB.nil _ _ _)
  obtain ⟨ad, cap, rfl, hat⟩ := hA.tree.node
  obtain ⟨fb, fo, fv, fw, rfl, hcf, hNf⟩ := hat kf nf hnf
  have hlf : ∀ a : Abv, linkF ((kf : Int), 0) a ts = if nf.folder then ([], 4) else if (placeF a ts).2 ≠ 0 then ([], (placeF a ts).2) else match ts[(placeF a ts).1.toNat]? with
    | none => ([], 0)
    | some n => (ts.set (placeF a ts).1.toNat (n.put a.nm (kf : Int)), 0) := fun a => by rw [linkF, if_neg (by simp)]; simp [hnf]
  rw [he, hlf]
  repeat (first | refine jC ?_ | refine jN ?_ | refine jS ?_ | refine jR ?_ | refine jT ?_ | refine jB ?_ | refine jX rfl ?_ | refine jY rfl ?_ | refine jK ?_ | refine jD ?_ | refine jE ?_)
  refine Ix.mk kf rfl hkf ?_
  repeat (first | refine jC ?_ | refine jN ?_ | refine jS ?_ | refine jR ?_ | refine jT ?_ | refine jB ?_ | refine jX rfl ?_ | refine jY rfl ?_ | refine jK ?_ | refine jD ?_ | refine jE ?_)
  refine Ld.mk ((hcf.ext hx0).out 0 _ rfl) ?_
  repeat (first | refine jC ?_ | refine jN ?_ | refine jS ?_ | refine jR ?_ | refine jT ?_ | refine jB ?_ | refine jX rfl ?_ | refine jY rfl ?_ | refine jK ?_ | refine jD ?_ | refine jE ?_)
  refine Br.intro (fun h => ?_) (fun h => ?_)
  · rw [if_pos h]
    repeat (first | refine jC ?_ | refine jN ?_ | refine jS ?_ | refine jR ?_ | refine jT ?_ | refine jB ?_ | refine jX rfl ?_ | refine jY rfl ?_ | refine jK ?_ | refine jD ?_ | refine jE ?_)
    exact EndV.tree (p := ([], 4)) hx0 (TreeB.nil _ _ _)
  rw [if_neg (by simp [h])]
  repeat (first | refine jC ?_ | refine jN ?_ | refine jS ?_ | refine jR ?_ | refine jT ?_ | refine jB ?_ | refine jX rfl ?_ | refine jY rfl ?_ | refine jK ?_ | refine jD ?_ | refine jE ?_)
  refine LdN.mk hcb rfl ?_
  repeat (first | refine jC ?_ | refine jN ?_ | refine jS ?_ | refine jR ?_ | refine jT ?_ | refine jB ?_ | refine jX rfl ?_ | refine jY rfl ?_ | refine jK ?_ | refine jD ?_ | refine jE ?_)
  refine CallV.val (fun w' hw _ => hP w' (hx0.trans hw)) ?_
  rcases place_cases ts c s2 with ⟨f, he2, h1, h5⟩ | ⟨k, n, x, hab, hav, he2, hn, hk, hT, hok⟩
  · rw [he2]
    simp only
    rw [if_pos (by omega)]
    repeat (first | refine jC ?_ | refine jN ?_ | refine jS ?_ | refine jR ?_ | refine jT ?_ | refine jB ?_ | refine jX rfl ?_ | refine jY rfl ?_ | refine jK ?_ | refine jD ?_ | refine jE ?_)
    refine Br.yes (by simp; omega) ?_
    repeat (first | refine jC ?_ | refine jN ?_ | refine jS ?_ | refine jR ?_ | refine jT ?_ | refine jB ?_ | refine jX rfl ?_ | refine jY rfl ?_ | refine jK ?_ | refine jD ?_ | refine jE ?_)
    exact EndV.tree (p := ([], f)) hx0 (TreeB.nil _ _ _)
  rw [he2, hav]
  simp only [Int.toNat_natCast, hn]
  rw [if_neg (by simp)]
  have h16 := hT.hi
  have hv : aboveV s2 = .tuple #[.string x.1, .string x.2, .bool true] := by rw [aboveV, hab]
  repeat (first | refine jC ?_ | refine jN ?_ | refine jS ?_ | refine jR ?_ | refine jT ?_ | refine jB ?_ | refine jX rfl ?_ | refine jY rfl ?_ | refine jK ?_ | refine jD ?_ | refine jE ?_)
  refine CallV.val (fun w' hw _ => hv ▸ iAboveOf_vc s2 w' hA2.size (hA2.ml.ext (hx0.trans hw))) ?_
  repeat (first | refine jC ?_ | refine jN ?_ | refine jS ?_ | refine jR ?_ | refine jT ?_ | refine jB ?_ | refine jX rfl ?_ | refine jY rfl ?_ | refine jK ?_ | refine jD ?_ | refine jE ?_)
  refine CallV.mem _ (fun w' hw _ => iCopy_vc ts _ w' (hA.tree.ext (hx0.trans hw)) hA.sized) (fun x1 wa wb hx1 hx2 hO hB => ?_)
  obtain ⟨ad', cap', g, bl, pv, rfl, hTB⟩ := hB
  have hlow : w0.heap.size ≤ wa.heap.size := hx1.size
  have hlo2 := hx2.size
  obtain ⟨rfl, hlo3, hhi3, hm3, hcs3⟩ := hTB.open_ hk
  repeat (first | refine jC ?_ | refine jN ?_ | refine jS ?_ | refine jR ?_ | refine jT ?_ | refine jB ?_ | refine jX rfl ?_ | refine jY rfl ?_ | refine jK ?_ | refine jD ?_ | refine jE ?_)
  refine Ix.mk k rfl hk ?_
  repeat (first | refine jC ?_ | refine jN ?_ | refine jS ?_ | refine jR ?_ | refine jT ?_ | refine jB ?_ | refine jX rfl ?_ | refine jY rfl ?_ | refine jK ?_ | refine jD ?_ | refine jE ?_)
  refine CallV.turn _ (fun w' hw _ => addName_at (Nat.zero_add _) (hTB.ext hw hw.size) (Nat.le_refl _) (by have := hw.size; omega) x.2 (kf : Int) hn hok.len (hA.sized.at hn).1 hok.asc') (fun u wc wd hxa hΦ => ?_)
  obtain ⟨⟨bl4, pv4, hTB4⟩, hX4⟩ := hΦ
  repeat (first | refine jC ?_ | refine jN ?_ | refine jS ?_ | refine jR ?_ | refine jT ?_ | refine jB ?_ | refine jX rfl ?_ | refine jY rfl ?_ | refine jK ?_ | refine jD ?_ | refine jE ?_)
  refine EndV.tree (p := (ts.set k (n.put x.2 (kf : Int)), 0)) ((((hx0.trans hx1).trans hx2).trans hxa).trans' (hX4.below (by have := hx0.size; have := hxa.size; omega) fun j hj e => by have := hx0.size; omega)) ?_
  exact ⟨_, _, _, _, _, by simp, hTB4.low (by have := hx0.size; omega)⟩
theorem sLinkName_vc (ts : List Nd) (v : Value) (c : Cr) (s s2 : ByteArray) (w : World) (hA : Ask w v ts s) (hA2 : Ask w v ts s2) : Turns 19 #[v, c.v, .string s, .string s2] w (linkF (findF ts c s) (abvF ts c s2) ts) := by
  have hF := fun w' (hw : Vc.Ext w w') => sFindNode_vc ts v c s w' (hA.ext hw)
  have hP := fun w' (hw : Vc.Ext w w') => sPlaceFor_vc ts v c s2 w' (hA2.ext hw)
  unfold Turns
  refine calls_of cx_ok Tryz.func19 Tryz.ntmps19 Tryz.results19 rfl rfl ?_
  repeat (first | refine jC ?_ | refine jN ?_ | refine jS ?_ | refine jR ?_ | refine jT ?_ | refine jB ?_ | refine jX rfl ?_ | refine jY rfl ?_ | refine jK ?_ | refine jD ?_ | refine jE ?_)
  intro b hb
  repeat (first | refine jC ?_ | refine jN ?_)
  refine WpC.plain (fun w0 hx0 hO => ?_)
  have hcb : CellsAt w0 b 0 [.int .i64 c.real, .int .i64 c.acts, .int .i64 c.saved, .int .i64 c.groups] := CellsAt.of_block hO.blk0 fun i v hi => by simpa using hi
  repeat (first | refine jC ?_ | refine jN ?_ | refine jS ?_ | refine jR ?_ | refine jT ?_ | refine jB ?_ | refine jX rfl ?_ | refine jY rfl ?_ | refine jK ?_ | refine jD ?_ | refine jE ?_)
  refine LdN.mk hcb rfl ?_
  repeat (first | refine jC ?_ | refine jN ?_ | refine jS ?_ | refine jR ?_ | refine jT ?_ | refine jB ?_ | refine jX rfl ?_ | refine jY rfl ?_ | refine jK ?_ | refine jD ?_ | refine jE ?_)
  refine CallV.val (fun w' hw _ => hF w' (hx0.trans hw)) ?_
  rcases find_cases ts c s with ⟨f, he, h1, h4⟩ | ⟨kf, nf, he, hnf, hkf, hTf, hc, hokf⟩
  · rw [he, linkF]
    simp only
    rw [if_pos (by omega)]
    repeat (first | refine jC ?_ | refine jN ?_ | refine jS ?_ | refine jR ?_ | refine jT ?_ | refine jB ?_ | refine jX rfl ?_ | refine jY rfl ?_ | refine jK ?_ | refine jD ?_ | refine jE ?_)
    refine Br.yes (by simp; omega) ?_
    repeat (first | refine jC ?_ | refine jN ?_ | refine jS ?_ | refine jR ?_ | refine jT ?_ | refine jB ?_ | refine jX rfl ?_ | refine jY rfl ?_ | refine jK ?_ | refine jD ?_ | refine jE ?_)
    refine Made.mk fun g9 w9 hx9 _ _ _ _ => ?_
    repeat (first | refine jC ?_ | refine jN ?_ | refine jS ?_ | refine jR ?_ | refine jT ?_ | refine jB ?_ | refine jX rfl ?_ | refine jY rfl ?_ | refine jK ?_ | refine jD ?_ | refine jE ?_)
    exact EndV.tree (p := ([], f)) (hx0.trans hx9) (TreeB.empty _ _ _ _ _)
  obtain ⟨ad, cap, rfl, hat⟩ := hA.tree.node
  obtain ⟨fb, fo, fv, fw, rfl, hcf, hNf⟩ := hat kf nf hnf
  have hlf : ∀ a : Abv, linkF ((kf : Int), 0) a ts = if nf.folder then ([], 4) else if (placeF a ts).2 ≠ 0 then ([], (placeF a ts).2) else match ts[(placeF a ts).1.toNat]? with
    | none => ([], 0)
    | some n => (ts.set (placeF a ts).1.toNat (n.put a.nm (kf : Int)), 0) := fun a => by rw [linkF, if_neg (by simp)]; simp [hnf]
  rw [he, hlf]
  repeat (first | refine jC ?_ | refine jN ?_ | refine jS ?_ | refine jR ?_ | refine jT ?_ | refine jB ?_ | refine jX rfl ?_ | refine jY rfl ?_ | refine jK ?_ | refine jD ?_ | refine jE ?_)
  refine Ix.mk kf rfl hkf ?_
  repeat (first | refine jC ?_ | refine jN ?_ | refine jS ?_ | refine jR ?_ | refine jT ?_ | refine jB ?_ | refine jX rfl ?_ | refine jY rfl ?_ | refine jK ?_ | refine jD ?_ | refine jE ?_)
  refine Ld.mk ((hcf.ext hx0).out 0 _ rfl) ?_
  repeat (first | refine jC ?_ | refine jN ?_ | refine jS ?_ | refine jR ?_ | refine jT ?_ | refine jB ?_ | refine jX rfl ?_ | refine jY rfl ?_ | refine jK ?_ | refine jD ?_ | refine jE ?_)
  refine Br.intro (fun h => ?_) (fun h => ?_)
  · rw [if_pos h]
    repeat (first | refine jC ?_ | refine jN ?_ | refine jS ?_ | refine jR ?_ | refine jT ?_ | refine jB ?_ | refine jX rfl ?_ | refine jY rfl ?_ | refine jK ?_ | refine jD ?_ | refine jE ?_)
    refine Made.mk fun g9 w9 hx9 _ _ _ _ => ?_
    repeat (first | refine jC ?_ | refine jN ?_ | refine jS ?_ | refine jR ?_ | refine jT ?_ | refine jB ?_ | refine jX rfl ?_ | refine jY rfl ?_ | refine jK ?_ | refine jD ?_ | refine jE ?_)
    exact EndV.tree (p := ([], 4)) (hx0.trans hx9) (TreeB.empty _ _ _ _ _)
  rw [if_neg (by simp [h])]
  repeat (first | refine jC ?_ | refine jN ?_ | refine jS ?_ | refine jR ?_ | refine jT ?_ | refine jB ?_ | refine jX rfl ?_ | refine jY rfl ?_ | refine jK ?_ | refine jD ?_ | refine jE ?_)
  refine LdN.mk hcb rfl ?_
  repeat (first | refine jC ?_ | refine jN ?_ | refine jS ?_ | refine jR ?_ | refine jT ?_ | refine jB ?_ | refine jX rfl ?_ | refine jY rfl ?_ | refine jK ?_ | refine jD ?_ | refine jE ?_)
  refine CallV.val (fun w' hw _ => hP w' (hx0.trans hw)) ?_
  rcases place_cases ts c s2 with ⟨f, he2, h1, h5⟩ | ⟨k, n, x, hab, hav, he2, hn, hk, hT, hok⟩
  · rw [he2]
    simp only
    rw [if_pos (by omega)]
    repeat (first | refine jC ?_ | refine jN ?_ | refine jS ?_ | refine jR ?_ | refine jT ?_ | refine jB ?_ | refine jX rfl ?_ | refine jY rfl ?_ | refine jK ?_ | refine jD ?_ | refine jE ?_)
    refine Br.yes (by simp; omega) ?_
    repeat (first | refine jC ?_ | refine jN ?_ | refine jS ?_ | refine jR ?_ | refine jT ?_ | refine jB ?_ | refine jX rfl ?_ | refine jY rfl ?_ | refine jK ?_ | refine jD ?_ | refine jE ?_)
    refine Made.mk fun g9 w9 hx9 _ _ _ _ => ?_
    repeat (first | refine jC ?_ | refine jN ?_ | refine jS ?_ | refine jR ?_ | refine jT ?_ | refine jB ?_ | refine jX rfl ?_ | refine jY rfl ?_ | refine jK ?_ | refine jD ?_ | refine jE ?_)
    exact EndV.tree (p := ([], f)) (hx0.trans hx9) (TreeB.empty _ _ _ _ _)
  rw [he2, hav]
  simp only [Int.toNat_natCast, hn]
  rw [if_neg (by simp)]
  have h16 := hT.hi
  have hv : aboveV s2 = .tuple #[.string x.1, .string x.2, .bool true] := by rw [aboveV, hab]
  repeat (first | refine jC ?_ | refine jN ?_ | refine jS ?_ | refine jR ?_ | refine jT ?_ | refine jB ?_ | refine jX rfl ?_ | refine jY rfl ?_ | refine jK ?_ | refine jD ?_ | refine jE ?_)
  refine CallV.val (fun w' hw _ => hv ▸ sAboveOf_vc s2 w' hA2.size) ?_
  repeat (first | refine jC ?_ | refine jN ?_ | refine jS ?_ | refine jR ?_ | refine jT ?_ | refine jB ?_ | refine jX rfl ?_ | refine jY rfl ?_ | refine jK ?_ | refine jD ?_ | refine jE ?_)
  refine CallV.mem _ (fun w' hw _ => sCopy_vc ts _ w' (hA.tree.ext (hx0.trans hw)) hA.sized) (fun x1 wa wb hx1 hx2 hO hB => ?_)
  obtain ⟨ad', cap', g, bl, pv, rfl, hTB⟩ := hB
  have hlow : w0.heap.size ≤ wa.heap.size := hx1.size
  have hlo2 := hx2.size
  obtain ⟨rfl, hlo3, hhi3, hm3, hcs3⟩ := hTB.open_ hk
  repeat (first | refine jC ?_ | refine jN ?_ | refine jS ?_ | refine jR ?_ | refine jT ?_ | refine jB ?_ | refine jX rfl ?_ | refine jY rfl ?_ | refine jK ?_ | refine jD ?_ | refine jE ?_)
  refine Ix.mk k rfl hk ?_
  repeat (first | refine jC ?_ | refine jN ?_ | refine jS ?_ | refine jR ?_ | refine jT ?_ | refine jB ?_ | refine jX rfl ?_ | refine jY rfl ?_ | refine jK ?_ | refine jD ?_ | refine jE ?_)
  refine LdN.mk (by rw [Nat.zero_add]; exact hcs3 k n hn) rfl ?_
  repeat (first | refine jC ?_ | refine jN ?_ | refine jS ?_ | refine jR ?_ | refine jT ?_ | refine jB ?_ | refine jX rfl ?_ | refine jY rfl ?_ | refine jK ?_ | refine jD ?_ | refine jE ?_)
  refine CallV.mem _ (fun w' hw _ => sPut_vc n _ _ x.2 (kf : Int) w' ((hTB.ndIn hn).ext hw) hok.len (hA.sized.at hn).1) (fun x3 wc wd hx3 hx4 hO hP2 => ?_)
  obtain ⟨v1, v2, g1, g2, rfl, hB1, hB2, hne⟩ := hP2
  have hs3 := hx3.size
  have hs4 := hx4.size
  have hTBd := hTB.ext (hx3.trans hx4) (Nat.le_refl _)
  have hmd := (hm3.ext (hx3.trans hx4))
  have hle3 := hTB.le
  have hTBs := hTBd.setN (n' := n.put x.2 (kf : Int)) hn (by omega) (hB1.low hs3) (hB2.low hs3) (fun _ _ => hne)
  obtain ⟨ad1, cap1, rfl, _⟩ := id hB1
  obtain ⟨ad2, cap2, rfl, _⟩ := id hB2
  repeat (first | refine jC ?_ | refine jN ?_ | refine jS ?_ | refine jR ?_ | refine jT ?_ | refine jB ?_ | refine jX rfl ?_ | refine jY rfl ?_ | refine jK ?_ | refine jD ?_ | refine jE ?_)
  refine Ix.mk k rfl hk ?_
  repeat (first | refine jC ?_ | refine jN ?_ | refine jS ?_ | refine jR ?_ | refine jT ?_ | refine jB ?_ | refine jX rfl ?_ | refine jY rfl ?_ | refine jK ?_ | refine jD ?_ | refine jE ?_)
  refine ⟨by have := hmd.sub (k := k * 7) (m := 7) (by omega); exact this, trivial, rfl, by simp [Value.oneCell'], ?_⟩
  repeat (first | refine jC ?_ | refine jN ?_)
  refine WpC.now (fun ws hxw _ => ?_)
  have hTBw := hTBs.ext hxw hxw.size
  have hxs : Vc.Ext w0 ws := ((((hx1.trans hx2).trans hx3).trans hx4).trans' (below_setL (Below.refl _ _) (by omega) _ _)).trans hxw
  repeat (first | refine jC ?_ | refine jN ?_ | refine jS ?_ | refine jR ?_ | refine jT ?_ | refine jB ?_ | refine jX rfl ?_ | refine jY rfl ?_ | refine jK ?_ | refine jD ?_ | refine jE ?_)
  exact EndV.tree (p := (ts.set k (n.put x.2 (kf : Int)), 0)) (hx0.trans hxs) (hTBw.fin (by have := hx0.size; omega) (Nat.le_refl _) (by simp))
theorem cntNds_put {ts : List Nd} : ∀ {k : Nat} {n : Nd} {x : ByteArray} {kid : Int}, ts[k]? = some n → cntNds (ts.set k (n.put x kid)) = cntNds ts + 2 := by
  induction ts with
  | nil => intro k n x kid h; simp at h
  | cons m r ih =>
    intro k n x kid h
    cases k with
    | zero =>
      simp at h; subst h
      have hp := posN_le m.names x
      have e1 : (m.put x kid).names.length = m.names.length + 1 := by simp [Nd.put]; omega
      have e2 : (m.put x kid).kids.length = m.kids.length + 1 := by simp [Nd.put]; omega
      rw [List.set_cons_zero, cntNds, cntNds, Nd.cnt, Nd.cnt, e1, e2]; omega
    | succ k => rw [List.set_cons_succ, cntNds, cntNds, ih (by simpa using h)]; omega
theorem make_cnt (ts : List Nd) (c : Cr) (s : ByteArray) (folder : Bool) (mode : Int) (hs : Sized ts) (h : cntNds ts ≤ 6291456) : cntNds (makeF (abvF ts c s) ts c folder mode).1 ≤ 100000000 := by
  rw [makeF]
  split
  · simp [cntNds]
  · split
    · simp [cntNds]
    · split
      · simp [cntNds]
      · split
        · simp [cntNds]
        · rename_i n hn
          simp only [cntNds_append, cntNds_put hn]
          simp only [cntNds, Nd.cnt, newN, List.length_nil]
          omega
theorem link_cnt (ts : List Nd) (c : Cr) (s s2 : ByteArray) (hs : Sized ts) (h : cntNds ts ≤ 6291456) : cntNds (linkF (findF ts c s) (abvF ts c s2) ts).1 ≤ 100000000 := by
  rw [linkF]
  split
  · simp [cntNds]
  · split
    · simp [cntNds]
    · split
      · simp [cntNds]
      · split
        · simp [cntNds]
        · split
          · simp [cntNds]
          · rename_i n hn
            simp only [cntNds_put hn]
            omega
end Go.Proofs.YtbnjjpgacemicaaGreatDoor
