/-
  Contracts: (*Node).addName, and the reference's l8Put.
  Conditions: bounds.
-/
import Derived.Test.YtbnjjpgacemicaaGreatDoorIns
import Derived.Test.YtbnjjpgacemicaaGreatDoorTurnB
namespace Go.Proofs.YtbnjjpgacemicaaGreatDoor
open Go.RowKit Vc
set_option linter.unusedVariables false
set_option maxHeartbeats 2000000
attribute [local irreducible] WpC WpL WpD WpE WpB CallV QCallV Made AppV Ld LdN Ix EndV I64 MutN Mut CellsAt

def Nd.put (n : Nd) (x : ByteArray) (k : Int) : Nd := { n with names := n.names.take (posN n.names x) ++ x :: n.names.drop (posN n.names x), kids := n.kids.take (posN n.names x) ++ k :: n.kids.drop (posN n.names x) }
theorem Below.excP {S : Nat → Prop} {B : Nat} {w w' : World} (h : ExcP S w w') (hs : B ≤ w.heap.size) (hS : ∀ j, j < B → ¬ S j) : Below B w w' := h.below hs hS
theorem GrewV.exc {w w' : World} {v : Value} {g g' : Nat} (h : GrewV w w' v g g') : ExcP (fun j => j = g ∧ 0 < capV v) w w' := by
  rcases h with ⟨_, h0, h⟩ | ⟨_, h⟩
  · exact h.mono fun j e => ⟨e, h0⟩
  · exact ExcP.of_ext h
theorem GrewV.ge {w w' : World} {v : Value} {g g' B : Nat} (h : GrewV w w' v g g') (hb : B ≤ w.heap.size) (hg : 0 < capV v → B ≤ g) : B ≤ g' := by
  rcases h with ⟨e, h0, _⟩ | ⟨e, _⟩
  · rw [e]; exact hg h0
  · omega
/-- The node k with two buffers that grew. -/
theorem TB.put {lo hi : Nat} {w w' : World} {ad : Option Addr} {cap g k : Nat} {ts : List Nd} {bl : Nat → Bool → Nat} {pv : Nat → Bool → Value} (h : TB lo hi w ad cap g ts bl pv) {n : Nd} {x : ByteArray} {kid : Int} (hk : ts[k]? = some n) (hh : hi ≤ w.heap.size)
    (hkn : n.names.length = n.kids.length)
    {v1 v2 : Value} {g1 g2 : Nat}
    (hX : ExcP (fun j => (j = bl k true ∧ 0 < capV (pv k true)) ∨ (j = bl k false ∧ 0 < capV (pv k false)) ∨ j = g) w w')
    (hm : MutN w' g 0 (cap * 7)) (hc : CellsAt w' g (k * 7) ((n.put x kid).cells v1 v2)) (hco : ∀ i m, i ≠ k → ts[i]? = some m → CellsAt w' g (i * 7) (m.cells (pv i true) (pv i false)))
    (hB1 : BufS lo w'.heap.size w' v1 (n.put x kid).names.length 1 (strs (n.put x kid).names) g1) (hB2 : BufS lo w'.heap.size w' v2 (n.put x kid).kids.length 1 (ints (n.put x kid).kids) g2)
    (hg1 : (g1 = bl k true ∧ 0 < capV (pv k true)) ∨ w.heap.size ≤ g1) (hg2 : (g2 = bl k false ∧ 0 < capV (pv k false)) ∨ w.heap.size ≤ g2) (hne : g1 ≠ g2) :
    TB lo w'.heap.size w' ad cap g (ts.set k (n.put x kid)) (fun i b => if i = k then cond b g1 g2 else bl i b) (fun i b => if i = k then cond b v1 v2 else pv i b) := by
  have hkl := (List.getElem?_eq_some_iff.1 hk).1
  have hle := h.le
  have hlt : ∀ i b, i < ts.length → 0 < capV (pv i b) → bl i b < w.heap.size := fun i b hi hc' => by
    have hu : ts[i]? = some ts[i] := List.getElem?_eq_getElem hi
    obtain ⟨ad', cap', e', _, _, _, _, hat⟩ := h.pc i _ b hu
    rw [e'] at hc'
    have := (hat hc').2.2.1
    omega
  have hgw : g < w.heap.size := by have := (h.at_ (by omega)).2.2.1; omega
  refine h.turn (w' := w') (hi' := w'.heap.size) (n' := n.put x kid) (p1 := fun b => cond b v1 v2) (b1 := fun b => cond b g1 g2) hk hX hh (by have := hX.size; omega) ⟨hm, hc, hco⟩ (fun i b hi hik hc' => ?_) (fun b => ?_) (fun _ _ => hne) (fun b hcb => ⟨?_, fun i b' hi hik hc' => ?_⟩)
  · rintro (⟨e, e0⟩ | ⟨e, e0⟩ | e)
    · exact h.ne i b k true hi hkl (.inl hik) hc' e0 e
    · exact h.ne i b k false hi hkl (.inl hik) hc' e0 e
    · exact h.neG i b hi hc' e
  · cases b
    · exact hB2
    · exact hB1
  · cases b
    · rcases hg2 with ⟨e, e0⟩ | e
      · show g2 ≠ g; rw [e]; exact h.neG k false hkl e0
      · show g2 ≠ g; omega
    · rcases hg1 with ⟨e, e0⟩ | e
      · show g1 ≠ g; rw [e]; exact h.neG k true hkl e0
      · show g1 ≠ g; omega
  · have hlti := hlt i b' hi hc'
    cases b
    · rcases hg2 with ⟨e, e0⟩ | e
      · show bl i b' ≠ g2; rw [e]; exact h.ne i b' k false hi hkl (.inl hik) hc' e0
      · show bl i b' ≠ g2; omega
    · rcases hg1 with ⟨e, e0⟩ | e
      · show bl i b' ≠ g1; rw [e]; exact h.ne i b' k true hi hkl (.inl hik) hc' e0
      · show bl i b' ≠ g1; omega
theorem addName_vc {lo hi : Nat} {w : World} {ad : Option Addr} {cap g k : Nat} {ts : List Nd} {bl : Nat → Bool → Nat} {pv : Nat → Bool → Value} (h : TB lo hi w ad cap g ts bl pv) (hh : hi ≤ w.heap.size) (hlo : lo ≤ w.heap.size) {n : Nd} (x : ByteArray) (kid : Int) (hk : ts[k]? = some n)
    (hkn : n.names.length = n.kids.length) (hl : n.names.length ≤ 8388608) (ha : Asc n.names) :
    Calls Tryz.prog 51 #[.pointer (some ⟨g, k * 7, none⟩), .string x, .int .i64 kid] w fun e w' => ∃ v, e = .returned v ∧ (∃ bl' pv', TB lo w'.heap.size w' ad cap g (ts.set k (n.put x kid)) bl' pv') ∧ ExcP (fun j => lo ≤ j) w w' := by
  have hkl := (List.getElem?_eq_some_iff.1 hk).1
  have hle := h.le
  obtain ⟨rfl, hlo', hhi, hm, hcs⟩ := h.at_ (by omega)
  have hcn := hcs k n hk
  have hpn := h.pc k n true hk
  have hpk := h.pc k n false hk
  have hgn := h.neG k true hkl
  have hgk := h.neG k false hkl
  have hnk := h.ne k true k false hkl hkl (.inr (by simp))
  simp only [contN, cont] at hpn hpk
  have hput : n.put x kid = { n with names := n.names.take (posN n.names x) ++ x :: n.names.drop (posN n.names x), kids := n.kids.take (posN n.names x) ++ kid :: n.kids.drop (posN n.names x) } := rfl
  have hTB := h
  have hple := posN_le n.names x
  have hT := (hTB.pc k n true hk).row1
  refine calls_of cx_ok Tryz.func51 Tryz.ntmps51 Tryz.results51 rfl rfl ?_
  repeat (first | refine jC ?_ | refine jN ?_ | refine jS ?_ | refine jR ?_ | refine jT ?_ | refine jB ?_ | refine jX rfl ?_ | refine jY rfl ?_ | refine jK ?_ | refine jD ?_ | refine jE ?_)
  refine Ld.mk (hcn.out 5 _ rfl) ?_
  repeat (first | refine jC ?_ | refine jN ?_ | refine jS ?_ | refine jR ?_ | refine jT ?_ | refine jB ?_ | refine jX rfl ?_ | refine jY rfl ?_ | refine jK ?_ | refine jD ?_ | refine jE ?_)
  refine CallV.val (fun w' hw _ => bs_call n.names _ x w' (hT.ext hw) hl ha) ?_
  repeat (first | refine jC ?_ | refine jN ?_ | refine jS ?_ | refine jR ?_ | refine jT ?_ | refine jB ?_ | refine jX rfl ?_ | refine jY rfl ?_ | refine jK ?_ | refine jD ?_ | refine jE ?_)
  generalize posN n.names x = p at hput hple
  refine WpC.drawD (ExcP (fun j => (j = bl k true ∧ 0 < capV (pv k true)) ∨ (j = bl k false ∧ 0 < capV (pv k false))) w) (fun w' hw => ExcP.of_ext hw) (.st 0 (.st 1 (.st 2 (.st 3 (.st 4 (.st 5 (.st 6 (.st 7 (.st 10 (.st 11 (.st 12 (.st 13 (.st 14 (.st 15 (.ef 8 (.ef 9 (.ef 16 (.ef 17 (.st 18 (.st 19 (.ef 20 (.st 21 (.st 22 (.ef 23 .done .done))) .done))) .done) .done) (.ef 16 (.ef 9 (.ef 17 (.st 18 (.st 19 (.ef 20 (.st 21 (.st 22 (.ef 23 .done .done))) .done))) .done) .done) .done)) (.ef 16 (.ef 8 (.ef 9 (.ef 17 (.st 18 (.st 19 (.ef 20 (.st 21 (.st 22 (.ef 23 .done .done))) .done))) .done) .done) .done) .done)))))))))))))))) [(0, .mv), (1, .mv), (2, .mv), (6, .mv), (7, .mv), (8, .ef), (9, .ef), (10, .mv), (14, .mv), (15, .mv), (16, .ef), (17, .ef), (20, .br), (23, .br)] (by kernel_rfl) ?_
  have hgw : g < w.heap.size := by omega
  have hcD : ∀ w', ExcP (fun j => (j = bl k true ∧ 0 < capV (pv k true)) ∨ (j = bl k false ∧ 0 < capV (pv k false))) w w' → CellsAt w' g (k * 7) (n.cells (pv k true) (pv k false)) := fun w' hw =>
    hcn.exc (by omega) hw (by rintro (⟨e, e0⟩ | ⟨e, e0⟩); exact hgn e0 e.symm; exact hgk e0 e.symm)
  repeat (first | refine uM ?_ | refine uR ?_ | refine uE ?_ | refine uB ?_ | refine uA ?_ | refine uD ?_ | refine jC ?_ | refine jN ?_ | refine jS ?_ | refine jR ?_ | refine jT ?_ | refine jB ?_ | refine jX rfl ?_ | refine jY rfl ?_ | refine jK ?_ | refine jD ?_ | refine jE ?_)
  refine WpE.rdD (by exact rfl) (by exact rfl) ?_
  refine ⟨_, fun w' hw => rfl, ?_⟩
  repeat (first | refine uM ?_ | refine uR ?_ | refine uE ?_ | refine uB ?_ | refine uA ?_ | refine uD ?_ | refine jC ?_ | refine jN ?_ | refine jS ?_ | refine jR ?_ | refine jT ?_ | refine jB ?_ | refine jX rfl ?_ | refine jY rfl ?_ | refine jK ?_ | refine jD ?_ | refine jE ?_)
  refine WpE.rdD (by exact rfl) (by exact rfl) ?_
  refine ⟨_, fun w' hw => rfl, ?_⟩
  repeat (first | refine uM ?_ | refine uR ?_ | refine uE ?_ | refine uB ?_ | refine uA ?_ | refine uD ?_ | refine jC ?_ | refine jN ?_ | refine jS ?_ | refine jR ?_ | refine jT ?_ | refine jB ?_ | refine jX rfl ?_ | refine jY rfl ?_ | refine jK ?_ | refine jD ?_ | refine jE ?_)
  refine WpE.rdD (by exact rfl) (by exact rfl) ?_
  refine ⟨_, fun w' hw => Ld.mk ((hcD w' hw).out 5 _ rfl) rfl, ?_⟩
  repeat (first | refine uM ?_ | refine uR ?_ | refine uE ?_ | refine uB ?_ | refine uA ?_ | refine uD ?_ | refine jC ?_ | refine jN ?_ | refine jS ?_ | refine jR ?_ | refine jT ?_ | refine jB ?_ | refine jX rfl ?_ | refine jY rfl ?_ | refine jK ?_ | refine jD ?_ | refine jE ?_)
  refine WpE.rdD (by exact rfl) (by exact rfl) ?_
  refine ⟨_, fun w' hw => rfl, ?_⟩
  repeat (first | refine uM ?_ | refine uR ?_ | refine uE ?_ | refine uB ?_ | refine uA ?_ | refine uD ?_ | refine jC ?_ | refine jN ?_ | refine jS ?_ | refine jR ?_ | refine jT ?_ | refine jB ?_ | refine jX rfl ?_ | refine jY rfl ?_ | refine jK ?_ | refine jD ?_ | refine jE ?_)
  refine WpE.rdD (by exact rfl) (by exact rfl) ?_
  refine ⟨_, fun w' hw => rfl, ?_⟩
  repeat (first | refine uM ?_ | refine uR ?_ | refine uE ?_ | refine uB ?_ | refine uA ?_ | refine uD ?_ | refine jC ?_ | refine jN ?_ | refine jS ?_ | refine jR ?_ | refine jT ?_ | refine jB ?_ | refine jX rfl ?_ | refine jY rfl ?_ | refine jK ?_ | refine jD ?_ | refine jE ?_)
  refine WpE.rdD (by exact rfl) (by exact rfl) ?_
  refine ⟨_, fun w' hw => Ld.mk ((hcD w' hw).out 6 _ rfl) rfl, ?_⟩
  repeat (first | refine uM ?_ | refine uR ?_ | refine uE ?_ | refine uB ?_ | refine uA ?_ | refine uD ?_ | refine jC ?_ | refine jN ?_ | refine jS ?_ | refine jR ?_ | refine jT ?_ | refine jB ?_ | refine jX rfl ?_ | refine jY rfl ?_ | refine jK ?_ | refine jD ?_ | refine jE ?_)
  have hpl : 0 < capV (pv k true) → bl k true < hi := fun h0 => by
    obtain ⟨_, _, e, _, _, _, _, hat⟩ := hpn
    rw [e] at h0
    exact (hat h0).2.2.1
  have hpm : 0 < capV (pv k false) → bl k false < hi := fun h0 => by
    obtain ⟨_, _, e, _, _, _, _, hat⟩ := hpk
    rw [e] at h0
    exact (hat h0).2.2.1
  refine WpE.ef2 (by exact rfl) (by exact rfl) ?_ ?_
  · refine Made.mk fun b1 w1 hx1 hb1g hb1l hb1c _ => ?_
    refine ⟨Keep.mk fun w' hw => ExcP.of_ext (hx1.trans hw), ?_⟩
    have hxb := hx1
    repeat (first | refine uM ?_ | refine uR ?_ | refine uE ?_ | refine uB ?_ | refine uA ?_ | refine uD ?_ | refine jC ?_ | refine jN ?_ | refine jS ?_ | refine jR ?_ | refine jT ?_ | refine jB ?_ | refine jX rfl ?_ | refine jY rfl ?_ | refine jK ?_ | refine jD ?_ | refine jE ?_)
    refine WpE.ef2 (by exact rfl) (by exact rfl) ?_ ?_
    · skip
      refine CallV.turn _ (fun w' hw _ => insertS_call n.names (pv k true) (bl k true) p x w' (hpn.ext (hxb.trans hw) (Nat.le_refl _)) (by have := (hxb.trans hw).size; omega) (by have := (hxb.trans hw).size; omega) hl hple b1 (hw.block b1 hb1l ▸ hb1c) (fun h0 => by have := hpl h0; omega)) (fun v1 wa wb hxa hΦ => ?_)
      obtain ⟨g1, hBn, hc1, hG1⟩ := hΦ
      obtain ⟨ad1, cap1, rfl, _⟩ := id hBn
      have hsa := (hxb.trans hxa).size
      have hzb : ExcP (fun j => (j = bl k true ∧ 0 < capV (pv k true)) ∨ (j = bl k false ∧ 0 < capV (pv k false))) w wb := (ExcP.of_ext (hxb.trans hxa)).trans (hG1.exc.mono fun j e => .inl e)
      have hsb := hG1.exc.size
      have hg1 : (g1 = bl k true ∧ 0 < capV (pv k true)) ∨ w.heap.size ≤ g1 := by
        rcases hG1 with ⟨e, e0, _⟩ | ⟨e, _⟩
        · exact .inl ⟨e, e0⟩
        · exact .inr (by omega)
      refine ⟨Keep.mk fun w' hw => hzb.trans (ExcP.of_ext hw), ?_⟩
      repeat (first | refine uM ?_ | refine uR ?_ | refine uE ?_ | refine uB ?_ | refine uA ?_ | refine uD ?_ | refine jC ?_ | refine jN ?_ | refine jS ?_ | refine jR ?_ | refine jT ?_ | refine jB ?_ | refine jX rfl ?_ | refine jY rfl ?_ | refine jK ?_ | refine jD ?_ | refine jE ?_)
      refine Made.mk fun b2 wd hx2 hb2g hb2l hb2c _ => ?_
      have hzd : ExcP (fun j => j = bl k true ∧ 0 < capV (pv k true)) w wd := ((ExcP.of_ext (hxb.trans hxa)).trans hG1.exc).trans (ExcP.of_ext hx2)
      have hBnd := hBn.ext hx2 hx2.size
      refine ⟨Keep.mk fun w' hw => (hzd.mono fun j e => .inl e).trans (ExcP.of_ext hw), ?_⟩
      repeat (first | refine uM ?_ | refine uR ?_ | refine uE ?_ | refine uB ?_ | refine uA ?_ | refine uD ?_ | refine jC ?_ | refine jN ?_ | refine jS ?_ | refine jR ?_ | refine jT ?_ | refine jB ?_ | refine jX rfl ?_ | refine jY rfl ?_ | refine jK ?_ | refine jD ?_ | refine jE ?_)
      refine CallV.turn _ (fun w' hw _ => insertI_call n.kids (pv k false) (bl k false) p kid w' (hpk.exc (hzd.trans (ExcP.of_ext hw)) (fun hc e => hnk e.2 hc e.1.symm) hh (Nat.le_refl _)) (by have := hzd.size; have := hw.size; omega) (by have := hzd.size; have := hw.size; omega) (by omega) (by omega) b2 (hw.block b2 hb2l ▸ hb2c) (fun h0 => by have := hpm h0; omega)) (fun v2 wc wz hxc hΦ => ?_)
      obtain ⟨g2, hBk, hc2, hG2⟩ := hΦ
      obtain ⟨ad2, cap2, rfl, _⟩ := id hBk
      have hsc := hxc.size
      have hzc : ExcP (fun j => (j = bl k true ∧ 0 < capV (pv k true)) ∨ (j = bl k false ∧ 0 < capV (pv k false))) w wc := (hzd.mono fun j e => .inl e).trans (ExcP.of_ext hxc)
      have hz : ExcP (fun j => (j = bl k true ∧ 0 < capV (pv k true)) ∨ (j = bl k false ∧ 0 < capV (pv k false))) w wz := hzc.trans (hG2.exc.mono fun j e => .inr e)
      have hsz := hG2.exc.size
      have hszd := hzd.size
      have hg1l : g1 < wc.heap.size := by
        have hBnc := hBnd.ext hxc (hi' := wc.heap.size) (by omega)
        obtain ⟨_, _, e, _, _, _, _, hat⟩ := hBnc
        cases e
        exact (hat hc1).2.2.1
      have hg2 : (g2 = bl k false ∧ 0 < capV (pv k false)) ∨ wc.heap.size ≤ g2 := by
        rcases hG2 with ⟨e, e0, _⟩ | ⟨e, _⟩
        · exact .inl ⟨e, e0⟩
        · exact .inr e
      have hne : g1 ≠ g2 := by
        rcases hg2 with ⟨e, e0⟩ | e
        · rcases hg1 with ⟨e', e0'⟩ | e'
          · rw [e, e']; exact hnk e0' e0
          · have := hpm e0; omega
        · omega
      have hBnz : BufS lo wz.heap.size wz (.slice ad1 (n.names.length + 1) cap1) (n.names.length + 1) 1 (strs (n.names.take p ++ x :: n.names.drop p)) g1 := ((hBnd.ext hxc (hi' := wc.heap.size) (by omega)).exc (hi' := wz.heap.size) hG2.exc (fun _ e => by
        rcases hg1 with ⟨e', e0'⟩ | e'
        · exact hnk e0' e.2 (e'.symm.trans e.1)
        · have := hpm e.2; omega) (Nat.le_refl _) (by omega))
      refine ⟨Keep.mk fun w' hw => hz.trans (ExcP.of_ext hw), ?_⟩
      repeat (first | refine uM ?_ | refine uR ?_ | refine uE ?_ | refine uB ?_ | refine uA ?_ | refine uD ?_ | refine jC ?_ | refine jN ?_ | refine jS ?_ | refine jR ?_ | refine jT ?_ | refine jB ?_ | refine jX rfl ?_ | refine jY rfl ?_ | refine jK ?_ | refine jD ?_ | refine jE ?_)
      refine WpE.rdD (by exact rfl) (by exact rfl) ?_
      refine ⟨_, fun w' hw => rfl, ?_⟩
      repeat (first | refine uM ?_ | refine uR ?_ | refine uE ?_ | refine uB ?_ | refine uA ?_ | refine uD ?_ | refine jC ?_ | refine jN ?_ | refine jS ?_ | refine jR ?_ | refine jT ?_ | refine jB ?_ | refine jX rfl ?_ | refine jY rfl ?_ | refine jK ?_ | refine jD ?_ | refine jE ?_)
      refine WpE.rdD (by exact rfl) (by exact rfl) ?_
      refine ⟨_, fun w' hw => rfl, ?_⟩
      repeat (first | refine uM ?_ | refine uR ?_ | refine uE ?_ | refine uB ?_ | refine uA ?_ | refine uD ?_ | refine jC ?_ | refine jN ?_ | refine jS ?_ | refine jR ?_ | refine jT ?_ | refine jB ?_ | refine jX rfl ?_ | refine jY rfl ?_ | refine jK ?_ | refine jD ?_ | refine jE ?_)
      have hmz : MutN wz g 0 (cap * 7) := hm.exc hgw hz (by rintro (⟨e, e0⟩ | ⟨e, e0⟩); exact hgn e0 e.symm; exact hgk e0 e.symm)
      have hmk : k * 7 + 7 ≤ cap * 7 := by omega
      refine ⟨by have := hmz.sub (k := k * 7 + 5) (m := 1) (by omega); rwa [Nat.zero_add] at this, trivial, rfl, by simp [Value.oneCell'], ?_⟩
      repeat (first | refine uM ?_ | refine uR ?_ | refine uE ?_ | refine uB ?_ | refine uA ?_ | refine uD ?_ | refine jC ?_ | refine jN ?_ | refine jS ?_ | refine jR ?_ | refine jT ?_ | refine jB ?_ | refine jX rfl ?_ | refine jY rfl ?_ | refine jK ?_ | refine jD ?_ | refine jE ?_)
      have hmz1 : MutN (setL wz g (k * 7 + 5) [Value.slice ad1 (n.names.length + 1) cap1]) g 0 (cap * 7) := MutN.setL _ _ _ hmz
      refine ⟨by have := hmz1.sub (k := k * 7 + 6) (m := 1) (by omega); rwa [Nat.zero_add] at this, trivial, rfl, by simp [Value.oneCell'], ?_⟩
      repeat (first | refine uM ?_ | refine uR ?_ | refine uE ?_ | refine uB ?_ | refine uA ?_ | refine uD ?_ | refine jC ?_ | refine jN ?_ | refine jS ?_ | refine jR ?_ | refine jT ?_ | refine jB ?_ | refine jX rfl ?_ | refine jY rfl ?_ | refine jK ?_ | refine jD ?_ | refine jE ?_)
      have hgD : ¬ ((g = bl k true ∧ 0 < capV (pv k true)) ∨ (g = bl k false ∧ 0 < capV (pv k false))) := by
        rintro (⟨e, e0⟩ | ⟨e, e0⟩)
        · exact hgn e0 e.symm
        · exact hgk e0 e.symm
      have hXg : ExcP (fun j => j = g) wz (setL (setL wz g (k * 7 + 5) [Value.slice ad1 (n.names.length + 1) cap1]) g (k * 7 + 6) [Value.slice ad2 (n.kids.length + 1) cap2]) :=
        ((ExcP.refl (fun j => j = g) wz).setL (S := fun j => j = g) rfl _ _).setL (S := fun j => j = g) rfl _ _
      have hcz : CellsAt (setL (setL wz g (k * 7 + 5) [Value.slice ad1 (n.names.length + 1) cap1]) g (k * 7 + 6) [Value.slice ad2 (n.kids.length + 1) cap2]) g (k * 7) (((n.cells (pv k true) (pv k false)).set 5 (Value.slice ad1 (n.names.length + 1) cap1)).set 6 (Value.slice ad2 (n.kids.length + 1) cap2)) :=
        ((hcD wz hz).setAt (by have := hmz.sub (k := k * 7 + 5) (m := 1) (by omega); rwa [Nat.zero_add] at this) (by simp)).setAt (by have := hmz1.sub (k := k * 7 + 6) (m := 1) (by omega); rwa [Nat.zero_add] at this) (by simp)
      have hco : ∀ i m, i ≠ k → ts[i]? = some m → CellsAt (setL (setL wz g (k * 7 + 5) [Value.slice ad1 (n.names.length + 1) cap1]) g (k * 7 + 6) [Value.slice ad2 (n.kids.length + 1) cap2]) g (i * 7) (m.cells (pv i true) (pv i false)) := fun i m hik hm' => by
        have e : (m.cells (pv i true) (pv i false)).length = 7 := rfl
        exact (((hcs i m hm').exc hgw hz hgD).setL_out (.inr (by rw [e]; simp only [List.length_cons, List.length_nil]; omega))).setL_out (.inr (by rw [e]; simp only [List.length_cons, List.length_nil]; omega))
      have hg1g : g1 ≠ g := by
        rcases hg1 with ⟨e, e0⟩ | e
        · rw [e]; exact hgn e0
        · omega
      have hg2g : g2 ≠ g := by
        rcases hg2 with ⟨e, e0⟩ | e
        · rw [e]; exact hgk e0
        · omega
      have hmf : MutN (setL (setL wz g (k * 7 + 5) [Value.slice ad1 (n.names.length + 1) cap1]) g (k * 7 + 6) [Value.slice ad2 (n.kids.length + 1) cap2]) g 0 (cap * 7) := MutN.setL _ _ _ hmz1
      have hsf := hXg.size
      have hBf1 := hBnz.exc (hi' := (setL (setL wz g (k * 7 + 5) [Value.slice ad1 (n.names.length + 1) cap1]) g (k * 7 + 6) [Value.slice ad2 (n.kids.length + 1) cap2]).heap.size) hXg (fun _ => hg1g) (Nat.le_refl _) hsf
      have hBf2 := hBk.exc (hi' := (setL (setL wz g (k * 7 + 5) [Value.slice ad1 (n.names.length + 1) cap1]) g (k * 7 + 6) [Value.slice ad2 (n.kids.length + 1) cap2]).heap.size) hXg (fun _ => hg2g) (Nat.le_refl _) hsf
      have hl1 : (n.put x kid).names.length = n.names.length + 1 := by
        rw [hput]; simp only [List.length_append, List.length_cons, List.length_take, List.length_drop]; omega
      have hl2 : (n.put x kid).kids.length = n.kids.length + 1 := by
        rw [hput]; simp only [List.length_append, List.length_cons, List.length_take, List.length_drop]; omega
      have hfin := hTB.put (x := x) (kid := kid) hk hh hkn (g1 := g1) (g2 := g2) ((hz.mono fun j e => e.elim (fun e => .inl e) fun e => .inr (.inl e)).trans (hXg.mono fun j e => .inr (.inr e))) hmf hcz hco
        (by rw [hl1, hput]; exact hBf1) (by rw [hl2, hput]; exact hBf2) hg1 (hg2.imp id fun e => by omega) hne
      refine EndV.mk fun w' hw' => ⟨_, rfl, ⟨_, _, hfin.ext hw' hw'.size⟩, ((hz.mono fun j e => ?_).trans (hXg.mono fun j e => by rw [e]; exact hlo')).trans (ExcP.of_ext hw')⟩
      rcases e with ⟨e, e0⟩ | ⟨e, e0⟩
      · obtain ⟨_, _, e', _, _, _, _, hat⟩ := hpn
        rw [e'] at e0
        rw [e]; exact (hat e0).2.1
      · obtain ⟨_, _, e', _, _, _, _, hat⟩ := hpk
        rw [e'] at e0
        rw [e]; exact (hat e0).2.1
    · refine WpE.ef (by exact rfl) (by exact rfl) ?_
      refine Made.mk fun b2 w2 hx2 hb2g hb2l hb2c _ => ?_
      have hxb := hxb.trans hx2
      have hb1c := (hx2.block b1 hb1l).trans hb1c
      have hb1l := Nat.lt_of_lt_of_le hb1l hx2.size
      have hb2g : w.heap.size ≤ b2 := Nat.le_trans hx1.size hb2g
      refine ⟨Keep.mk fun w' hw => ExcP.of_ext (hxb.trans hw), ?_⟩
      repeat (first | refine uM ?_ | refine uR ?_ | refine uE ?_ | refine uB ?_ | refine uA ?_ | refine uD ?_ | refine jC ?_ | refine jN ?_ | refine jS ?_ | refine jR ?_ | refine jT ?_ | refine jB ?_ | refine jX rfl ?_ | refine jY rfl ?_ | refine jK ?_ | refine jD ?_ | refine jE ?_)
      refine CallV.turn _ (fun w' hw _ => insertS_call n.names (pv k true) (bl k true) p x w' (hpn.ext (hxb.trans hw) (Nat.le_refl _)) (by have := (hxb.trans hw).size; omega) (by have := (hxb.trans hw).size; omega) hl hple b1 (hw.block b1 hb1l ▸ hb1c) (fun h0 => by have := hpl h0; omega)) (fun v1 wa wb hxa hΦ => ?_)
      obtain ⟨g1, hBn, hc1, hG1⟩ := hΦ
      obtain ⟨ad1, cap1, rfl, _⟩ := id hBn
      have hsa := (hxb.trans hxa).size
      have hzb : ExcP (fun j => (j = bl k true ∧ 0 < capV (pv k true)) ∨ (j = bl k false ∧ 0 < capV (pv k false))) w wb := (ExcP.of_ext (hxb.trans hxa)).trans (hG1.exc.mono fun j e => .inl e)
      have hsb := hG1.exc.size
      have hg1 : (g1 = bl k true ∧ 0 < capV (pv k true)) ∨ w.heap.size ≤ g1 := by
        rcases hG1 with ⟨e, e0, _⟩ | ⟨e, _⟩
        · exact .inl ⟨e, e0⟩
        · exact .inr (by omega)
      refine ⟨Keep.mk fun w' hw => hzb.trans (ExcP.of_ext hw), ?_⟩
      have hzd : ExcP (fun j => j = bl k true ∧ 0 < capV (pv k true)) w wb := (ExcP.of_ext (hxb.trans hxa)).trans hG1.exc
      have hBnd := hBn
      have hb2l' : b2 < wa.heap.size := Nat.lt_of_lt_of_le hb2l hxa.size
      have hb2c : wb.heap[b2]? = _ := (hG1.exc.block b2 hb2l' fun e => by have := hpl e.2; omega).trans ((hxa.block b2 hb2l).trans hb2c)
      have hb2l : b2 < wb.heap.size := by omega
      repeat (first | refine uM ?_ | refine uR ?_ | refine uE ?_ | refine uB ?_ | refine uA ?_ | refine uD ?_ | refine jC ?_ | refine jN ?_ | refine jS ?_ | refine jR ?_ | refine jT ?_ | refine jB ?_ | refine jX rfl ?_ | refine jY rfl ?_ | refine jK ?_ | refine jD ?_ | refine jE ?_)
      refine CallV.turn _ (fun w' hw _ => insertI_call n.kids (pv k false) (bl k false) p kid w' (hpk.exc (hzd.trans (ExcP.of_ext hw)) (fun hc e => hnk e.2 hc e.1.symm) hh (Nat.le_refl _)) (by have := hzd.size; have := hw.size; omega) (by have := hzd.size; have := hw.size; omega) (by omega) (by omega) b2 (hw.block b2 hb2l ▸ hb2c) (fun h0 => by have := hpm h0; omega)) (fun v2 wc wz hxc hΦ => ?_)
      obtain ⟨g2, hBk, hc2, hG2⟩ := hΦ
      obtain ⟨ad2, cap2, rfl, _⟩ := id hBk
      have hsc := hxc.size
      have hzc : ExcP (fun j => (j = bl k true ∧ 0 < capV (pv k true)) ∨ (j = bl k false ∧ 0 < capV (pv k false))) w wc := (hzd.mono fun j e => .inl e).trans (ExcP.of_ext hxc)
      have hz : ExcP (fun j => (j = bl k true ∧ 0 < capV (pv k true)) ∨ (j = bl k false ∧ 0 < capV (pv k false))) w wz := hzc.trans (hG2.exc.mono fun j e => .inr e)
      have hsz := hG2.exc.size
      have hszd := hzd.size
      have hg1l : g1 < wc.heap.size := by
        have hBnc := hBnd.ext hxc (hi' := wc.heap.size) (by omega)
        obtain ⟨_, _, e, _, _, _, _, hat⟩ := hBnc
        cases e
        exact (hat hc1).2.2.1
      have hg2 : (g2 = bl k false ∧ 0 < capV (pv k false)) ∨ wc.heap.size ≤ g2 := by
        rcases hG2 with ⟨e, e0, _⟩ | ⟨e, _⟩
        · exact .inl ⟨e, e0⟩
        · exact .inr e
      have hne : g1 ≠ g2 := by
        rcases hg2 with ⟨e, e0⟩ | e
        · rcases hg1 with ⟨e', e0'⟩ | e'
          · rw [e, e']; exact hnk e0' e0
          · have := hpm e0; omega
        · omega
      have hBnz : BufS lo wz.heap.size wz (.slice ad1 (n.names.length + 1) cap1) (n.names.length + 1) 1 (strs (n.names.take p ++ x :: n.names.drop p)) g1 := ((hBnd.ext hxc (hi' := wc.heap.size) (by omega)).exc (hi' := wz.heap.size) hG2.exc (fun _ e => by
        rcases hg1 with ⟨e', e0'⟩ | e'
        · exact hnk e0' e.2 (e'.symm.trans e.1)
        · have := hpm e.2; omega) (Nat.le_refl _) (by omega))
      refine ⟨Keep.mk fun w' hw => hz.trans (ExcP.of_ext hw), ?_⟩
      repeat (first | refine uM ?_ | refine uR ?_ | refine uE ?_ | refine uB ?_ | refine uA ?_ | refine uD ?_ | refine jC ?_ | refine jN ?_ | refine jS ?_ | refine jR ?_ | refine jT ?_ | refine jB ?_ | refine jX rfl ?_ | refine jY rfl ?_ | refine jK ?_ | refine jD ?_ | refine jE ?_)
      refine WpE.rdD (by exact rfl) (by exact rfl) ?_
      refine ⟨_, fun w' hw => rfl, ?_⟩
      repeat (first | refine uM ?_ | refine uR ?_ | refine uE ?_ | refine uB ?_ | refine uA ?_ | refine uD ?_ | refine jC ?_ | refine jN ?_ | refine jS ?_ | refine jR ?_ | refine jT ?_ | refine jB ?_ | refine jX rfl ?_ | refine jY rfl ?_ | refine jK ?_ | refine jD ?_ | refine jE ?_)
      refine WpE.rdD (by exact rfl) (by exact rfl) ?_
      refine ⟨_, fun w' hw => rfl, ?_⟩
      repeat (first | refine uM ?_ | refine uR ?_ | refine uE ?_ | refine uB ?_ | refine uA ?_ | refine uD ?_ | refine jC ?_ | refine jN ?_ | refine jS ?_ | refine jR ?_ | refine jT ?_ | refine jB ?_ | refine jX rfl ?_ | refine jY rfl ?_ | refine jK ?_ | refine jD ?_ | refine jE ?_)
      have hmz : MutN wz g 0 (cap * 7) := hm.exc hgw hz (by rintro (⟨e, e0⟩ | ⟨e, e0⟩); exact hgn e0 e.symm; exact hgk e0 e.symm)
      have hmk : k * 7 + 7 ≤ cap * 7 := by omega
      refine ⟨by have := hmz.sub (k := k * 7 + 5) (m := 1) (by omega); rwa [Nat.zero_add] at this, trivial, rfl, by simp [Value.oneCell'], ?_⟩
      repeat (first | refine uM ?_ | refine uR ?_ | refine uE ?_ | refine uB ?_ | refine uA ?_ | refine uD ?_ | refine jC ?_ | refine jN ?_ | refine jS ?_ | refine jR ?_ | refine jT ?_ | refine jB ?_ | refine jX rfl ?_ | refine jY rfl ?_ | refine jK ?_ | refine jD ?_ | refine jE ?_)
      have hmz1 : MutN (setL wz g (k * 7 + 5) [Value.slice ad1 (n.names.length + 1) cap1]) g 0 (cap * 7) := MutN.setL _ _ _ hmz
      refine ⟨by have := hmz1.sub (k := k * 7 + 6) (m := 1) (by omega); rwa [Nat.zero_add] at this, trivial, rfl, by simp [Value.oneCell'], ?_⟩
      repeat (first | refine uM ?_ | refine uR ?_ | refine uE ?_ | refine uB ?_ | refine uA ?_ | refine uD ?_ | refine jC ?_ | refine jN ?_ | refine jS ?_ | refine jR ?_ | refine jT ?_ | refine jB ?_ | refine jX rfl ?_ | refine jY rfl ?_ | refine jK ?_ | refine jD ?_ | refine jE ?_)
      have hgD : ¬ ((g = bl k true ∧ 0 < capV (pv k true)) ∨ (g = bl k false ∧ 0 < capV (pv k false))) := by
        rintro (⟨e, e0⟩ | ⟨e, e0⟩)
        · exact hgn e0 e.symm
        · exact hgk e0 e.symm
      have hXg : ExcP (fun j => j = g) wz (setL (setL wz g (k * 7 + 5) [Value.slice ad1 (n.names.length + 1) cap1]) g (k * 7 + 6) [Value.slice ad2 (n.kids.length + 1) cap2]) :=
        ((ExcP.refl (fun j => j = g) wz).setL (S := fun j => j = g) rfl _ _).setL (S := fun j => j = g) rfl _ _
      have hcz : CellsAt (setL (setL wz g (k * 7 + 5) [Value.slice ad1 (n.names.length + 1) cap1]) g (k * 7 + 6) [Value.slice ad2 (n.kids.length + 1) cap2]) g (k * 7) (((n.cells (pv k true) (pv k false)).set 5 (Value.slice ad1 (n.names.length + 1) cap1)).set 6 (Value.slice ad2 (n.kids.length + 1) cap2)) :=
        ((hcD wz hz).setAt (by have := hmz.sub (k := k * 7 + 5) (m := 1) (by omega); rwa [Nat.zero_add] at this) (by simp)).setAt (by have := hmz1.sub (k := k * 7 + 6) (m := 1) (by omega); rwa [Nat.zero_add] at this) (by simp)
      have hco : ∀ i m, i ≠ k → ts[i]? = some m → CellsAt (setL (setL wz g (k * 7 + 5) [Value.slice ad1 (n.names.length + 1) cap1]) g (k * 7 + 6) [Value.slice ad2 (n.kids.length + 1) cap2]) g (i * 7) (m.cells (pv i true) (pv i false)) := fun i m hik hm' => by
        have e : (m.cells (pv i true) (pv i false)).length = 7 := rfl
        exact (((hcs i m hm').exc hgw hz hgD).setL_out (.inr (by rw [e]; simp only [List.length_cons, List.length_nil]; omega))).setL_out (.inr (by rw [e]; simp only [List.length_cons, List.length_nil]; omega))
      have hg1g : g1 ≠ g := by
        rcases hg1 with ⟨e, e0⟩ | e
        · rw [e]; exact hgn e0
        · omega
      have hg2g : g2 ≠ g := by
        rcases hg2 with ⟨e, e0⟩ | e
        · rw [e]; exact hgk e0
        · omega
      have hmf : MutN (setL (setL wz g (k * 7 + 5) [Value.slice ad1 (n.names.length + 1) cap1]) g (k * 7 + 6) [Value.slice ad2 (n.kids.length + 1) cap2]) g 0 (cap * 7) := MutN.setL _ _ _ hmz1
      have hsf := hXg.size
      have hBf1 := hBnz.exc (hi' := (setL (setL wz g (k * 7 + 5) [Value.slice ad1 (n.names.length + 1) cap1]) g (k * 7 + 6) [Value.slice ad2 (n.kids.length + 1) cap2]).heap.size) hXg (fun _ => hg1g) (Nat.le_refl _) hsf
      have hBf2 := hBk.exc (hi' := (setL (setL wz g (k * 7 + 5) [Value.slice ad1 (n.names.length + 1) cap1]) g (k * 7 + 6) [Value.slice ad2 (n.kids.length + 1) cap2]).heap.size) hXg (fun _ => hg2g) (Nat.le_refl _) hsf
      have hl1 : (n.put x kid).names.length = n.names.length + 1 := by
        rw [hput]; simp only [List.length_append, List.length_cons, List.length_take, List.length_drop]; omega
      have hl2 : (n.put x kid).kids.length = n.kids.length + 1 := by
        rw [hput]; simp only [List.length_append, List.length_cons, List.length_take, List.length_drop]; omega
      have hfin := hTB.put (x := x) (kid := kid) hk hh hkn (g1 := g1) (g2 := g2) ((hz.mono fun j e => e.elim (fun e => .inl e) fun e => .inr (.inl e)).trans (hXg.mono fun j e => .inr (.inr e))) hmf hcz hco
        (by rw [hl1, hput]; exact hBf1) (by rw [hl2, hput]; exact hBf2) hg1 (hg2.imp id fun e => by omega) hne
      refine EndV.mk fun w' hw' => ⟨_, rfl, ⟨_, _, hfin.ext hw' hw'.size⟩, ((hz.mono fun j e => ?_).trans (hXg.mono fun j e => by rw [e]; exact hlo')).trans (ExcP.of_ext hw')⟩
      rcases e with ⟨e, e0⟩ | ⟨e, e0⟩
      · obtain ⟨_, _, e', _, _, _, _, hat⟩ := hpn
        rw [e'] at e0
        rw [e]; exact (hat e0).2.1
      · obtain ⟨_, _, e', _, _, _, _, hat⟩ := hpk
        rw [e'] at e0
        rw [e]; exact (hat e0).2.1
  · refine WpE.ef (by exact rfl) (by exact rfl) ?_
    refine Made.mk fun b2 w1 hx1 hb2g hb2l hb2c _ => ?_
    refine ⟨Keep.mk fun w' hw => ExcP.of_ext (hx1.trans hw), ?_⟩
    repeat (first | refine uM ?_ | refine uR ?_ | refine uE ?_ | refine uB ?_ | refine uA ?_ | refine uD ?_ | refine jC ?_ | refine jN ?_ | refine jS ?_ | refine jR ?_ | refine jT ?_ | refine jB ?_ | refine jX rfl ?_ | refine jY rfl ?_ | refine jK ?_ | refine jD ?_ | refine jE ?_)
    refine Made.mk fun b1 w2 hx2 hb1g hb1l hb1c _ => ?_
    have hxb := hx1.trans hx2
    have hb2c := (hx2.block b2 hb2l).trans hb2c
    have hb2l := Nat.lt_of_lt_of_le hb2l hx2.size
    have hb1g : w.heap.size ≤ b1 := Nat.le_trans hx1.size hb1g
    refine ⟨Keep.mk fun w' hw => ExcP.of_ext (hxb.trans hw), ?_⟩
    repeat (first | refine uM ?_ | refine uR ?_ | refine uE ?_ | refine uB ?_ | refine uA ?_ | refine uD ?_ | refine jC ?_ | refine jN ?_ | refine jS ?_ | refine jR ?_ | refine jT ?_ | refine jB ?_ | refine jX rfl ?_ | refine jY rfl ?_ | refine jK ?_ | refine jD ?_ | refine jE ?_)
    refine CallV.turn _ (fun w' hw _ => insertS_call n.names (pv k true) (bl k true) p x w' (hpn.ext (hxb.trans hw) (Nat.le_refl _)) (by have := (hxb.trans hw).size; omega) (by have := (hxb.trans hw).size; omega) hl hple b1 (hw.block b1 hb1l ▸ hb1c) (fun h0 => by have := hpl h0; omega)) (fun v1 wa wb hxa hΦ => ?_)
    obtain ⟨g1, hBn, hc1, hG1⟩ := hΦ
    obtain ⟨ad1, cap1, rfl, _⟩ := id hBn
    have hsa := (hxb.trans hxa).size
    have hzb : ExcP (fun j => (j = bl k true ∧ 0 < capV (pv k true)) ∨ (j = bl k false ∧ 0 < capV (pv k false))) w wb := (ExcP.of_ext (hxb.trans hxa)).trans (hG1.exc.mono fun j e => .inl e)
    have hsb := hG1.exc.size
    have hg1 : (g1 = bl k true ∧ 0 < capV (pv k true)) ∨ w.heap.size ≤ g1 := by
      rcases hG1 with ⟨e, e0, _⟩ | ⟨e, _⟩
      · exact .inl ⟨e, e0⟩
      · exact .inr (by omega)
    refine ⟨Keep.mk fun w' hw => hzb.trans (ExcP.of_ext hw), ?_⟩
    have hzd : ExcP (fun j => j = bl k true ∧ 0 < capV (pv k true)) w wb := (ExcP.of_ext (hxb.trans hxa)).trans hG1.exc
    have hBnd := hBn
    have hb2l' : b2 < wa.heap.size := Nat.lt_of_lt_of_le hb2l hxa.size
    have hb2c : wb.heap[b2]? = _ := (hG1.exc.block b2 hb2l' fun e => by have := hpl e.2; omega).trans ((hxa.block b2 hb2l).trans hb2c)
    have hb2l : b2 < wb.heap.size := by omega
    repeat (first | refine uM ?_ | refine uR ?_ | refine uE ?_ | refine uB ?_ | refine uA ?_ | refine uD ?_ | refine jC ?_ | refine jN ?_ | refine jS ?_ | refine jR ?_ | refine jT ?_ | refine jB ?_ | refine jX rfl ?_ | refine jY rfl ?_ | refine jK ?_ | refine jD ?_ | refine jE ?_)
    refine CallV.turn _ (fun w' hw _ => insertI_call n.kids (pv k false) (bl k false) p kid w' (hpk.exc (hzd.trans (ExcP.of_ext hw)) (fun hc e => hnk e.2 hc e.1.symm) hh (Nat.le_refl _)) (by have := hzd.size; have := hw.size; omega) (by have := hzd.size; have := hw.size; omega) (by omega) (by omega) b2 (hw.block b2 hb2l ▸ hb2c) (fun h0 => by have := hpm h0; omega)) (fun v2 wc wz hxc hΦ => ?_)
    obtain ⟨g2, hBk, hc2, hG2⟩ := hΦ
    obtain ⟨ad2, cap2, rfl, _⟩ := id hBk
    have hsc := hxc.size
    have hzc : ExcP (fun j => (j = bl k true ∧ 0 < capV (pv k true)) ∨ (j = bl k false ∧ 0 < capV (pv k false))) w wc := (hzd.mono fun j e => .inl e).trans (ExcP.of_ext hxc)
    have hz : ExcP (fun j => (j = bl k true ∧ 0 < capV (pv k true)) ∨ (j = bl k false ∧ 0 < capV (pv k false))) w wz := hzc.trans (hG2.exc.mono fun j e => .inr e)
    have hsz := hG2.exc.size
    have hszd := hzd.size
    have hg1l : g1 < wc.heap.size := by
      have hBnc := hBnd.ext hxc (hi' := wc.heap.size) (by omega)
      obtain ⟨_, _, e, _, _, _, _, hat⟩ := hBnc
      cases e
      exact (hat hc1).2.2.1
    have hg2 : (g2 = bl k false ∧ 0 < capV (pv k false)) ∨ wc.heap.size ≤ g2 := by
      rcases hG2 with ⟨e, e0, _⟩ | ⟨e, _⟩
      · exact .inl ⟨e, e0⟩
      · exact .inr e
    have hne : g1 ≠ g2 := by
      rcases hg2 with ⟨e, e0⟩ | e
      · rcases hg1 with ⟨e', e0'⟩ | e'
        · rw [e, e']; exact hnk e0' e0
        · have := hpm e0; omega
      · omega
    have hBnz : BufS lo wz.heap.size wz (.slice ad1 (n.names.length + 1) cap1) (n.names.length + 1) 1 (strs (n.names.take p ++ x :: n.names.drop p)) g1 := ((hBnd.ext hxc (hi' := wc.heap.size) (by omega)).exc (hi' := wz.heap.size) hG2.exc (fun _ e => by
      rcases hg1 with ⟨e', e0'⟩ | e'
      · exact hnk e0' e.2 (e'.symm.trans e.1)
      · have := hpm e.2; omega) (Nat.le_refl _) (by omega))
    refine ⟨Keep.mk fun w' hw => hz.trans (ExcP.of_ext hw), ?_⟩
    repeat (first | refine uM ?_ | refine uR ?_ | refine uE ?_ | refine uB ?_ | refine uA ?_ | refine uD ?_ | refine jC ?_ | refine jN ?_ | refine jS ?_ | refine jR ?_ | refine jT ?_ | refine jB ?_ | refine jX rfl ?_ | refine jY rfl ?_ | refine jK ?_ | refine jD ?_ | refine jE ?_)
    refine WpE.rdD (by exact rfl) (by exact rfl) ?_
    refine ⟨_, fun w' hw => rfl, ?_⟩
    repeat (first | refine uM ?_ | refine uR ?_ | refine uE ?_ | refine uB ?_ | refine uA ?_ | refine uD ?_ | refine jC ?_ | refine jN ?_ | refine jS ?_ | refine jR ?_ | refine jT ?_ | refine jB ?_ | refine jX rfl ?_ | refine jY rfl ?_ | refine jK ?_ | refine jD ?_ | refine jE ?_)
    refine WpE.rdD (by exact rfl) (by exact rfl) ?_
    refine ⟨_, fun w' hw => rfl, ?_⟩
    repeat (first | refine uM ?_ | refine uR ?_ | refine uE ?_ | refine uB ?_ | refine uA ?_ | refine uD ?_ | refine jC ?_ | refine jN ?_ | refine jS ?_ | refine jR ?_ | refine jT ?_ | refine jB ?_ | refine jX rfl ?_ | refine jY rfl ?_ | refine jK ?_ | refine jD ?_ | refine jE ?_)
    have hmz : MutN wz g 0 (cap * 7) := hm.exc hgw hz (by rintro (⟨e, e0⟩ | ⟨e, e0⟩); exact hgn e0 e.symm; exact hgk e0 e.symm)
    have hmk : k * 7 + 7 ≤ cap * 7 := by omega
    refine ⟨by have := hmz.sub (k := k * 7 + 5) (m := 1) (by omega); rwa [Nat.zero_add] at this, trivial, rfl, by simp [Value.oneCell'], ?_⟩
    repeat (first | refine uM ?_ | refine uR ?_ | refine uE ?_ | refine uB ?_ | refine uA ?_ | refine uD ?_ | refine jC ?_ | refine jN ?_ | refine jS ?_ | refine jR ?_ | refine jT ?_ | refine jB ?_ | refine jX rfl ?_ | refine jY rfl ?_ | refine jK ?_ | refine jD ?_ | refine jE ?_)
    have hmz1 : MutN (setL wz g (k * 7 + 5) [Value.slice ad1 (n.names.length + 1) cap1]) g 0 (cap * 7) := MutN.setL _ _ _ hmz
    refine ⟨by have := hmz1.sub (k := k * 7 + 6) (m := 1) (by omega); rwa [Nat.zero_add] at this, trivial, rfl, by simp [Value.oneCell'], ?_⟩
    repeat (first | refine uM ?_ | refine uR ?_ | refine uE ?_ | refine uB ?_ | refine uA ?_ | refine uD ?_ | refine jC ?_ | refine jN ?_ | refine jS ?_ | refine jR ?_ | refine jT ?_ | refine jB ?_ | refine jX rfl ?_ | refine jY rfl ?_ | refine jK ?_ | refine jD ?_ | refine jE ?_)
    have hgD : ¬ ((g = bl k true ∧ 0 < capV (pv k true)) ∨ (g = bl k false ∧ 0 < capV (pv k false))) := by
      rintro (⟨e, e0⟩ | ⟨e, e0⟩)
      · exact hgn e0 e.symm
      · exact hgk e0 e.symm
    have hXg : ExcP (fun j => j = g) wz (setL (setL wz g (k * 7 + 5) [Value.slice ad1 (n.names.length + 1) cap1]) g (k * 7 + 6) [Value.slice ad2 (n.kids.length + 1) cap2]) :=
      ((ExcP.refl (fun j => j = g) wz).setL (S := fun j => j = g) rfl _ _).setL (S := fun j => j = g) rfl _ _
    have hcz : CellsAt (setL (setL wz g (k * 7 + 5) [Value.slice ad1 (n.names.length + 1) cap1]) g (k * 7 + 6) [Value.slice ad2 (n.kids.length + 1) cap2]) g (k * 7) (((n.cells (pv k true) (pv k false)).set 5 (Value.slice ad1 (n.names.length + 1) cap1)).set 6 (Value.slice ad2 (n.kids.length + 1) cap2)) :=
      ((hcD wz hz).setAt (by have := hmz.sub (k := k * 7 + 5) (m := 1) (by omega); rwa [Nat.zero_add] at this) (by simp)).setAt (by have := hmz1.sub (k := k * 7 + 6) (m := 1) (by omega); rwa [Nat.zero_add] at this) (by simp)
    have hco : ∀ i m, i ≠ k → ts[i]? = some m → CellsAt (setL (setL wz g (k * 7 + 5) [Value.slice ad1 (n.names.length + 1) cap1]) g (k * 7 + 6) [Value.slice ad2 (n.kids.length + 1) cap2]) g (i * 7) (m.cells (pv i true) (pv i false)) := fun i m hik hm' => by
      have e : (m.cells (pv i true) (pv i false)).length = 7 := rfl
      exact (((hcs i m hm').exc hgw hz hgD).setL_out (.inr (by rw [e]; simp only [List.length_cons, List.length_nil]; omega))).setL_out (.inr (by rw [e]; simp only [List.length_cons, List.length_nil]; omega))
    have hg1g : g1 ≠ g := by
      rcases hg1 with ⟨e, e0⟩ | e
      · rw [e]; exact hgn e0
      · omega
    have hg2g : g2 ≠ g := by
      rcases hg2 with ⟨e, e0⟩ | e
      · rw [e]; exact hgk e0
      · omega
    have hmf : MutN (setL (setL wz g (k * 7 + 5) [Value.slice ad1 (n.names.length + 1) cap1]) g (k * 7 + 6) [Value.slice ad2 (n.kids.length + 1) cap2]) g 0 (cap * 7) := MutN.setL _ _ _ hmz1
    have hsf := hXg.size
    have hBf1 := hBnz.exc (hi' := (setL (setL wz g (k * 7 + 5) [Value.slice ad1 (n.names.length + 1) cap1]) g (k * 7 + 6) [Value.slice ad2 (n.kids.length + 1) cap2]).heap.size) hXg (fun _ => hg1g) (Nat.le_refl _) hsf
    have hBf2 := hBk.exc (hi' := (setL (setL wz g (k * 7 + 5) [Value.slice ad1 (n.names.length + 1) cap1]) g (k * 7 + 6) [Value.slice ad2 (n.kids.length + 1) cap2]).heap.size) hXg (fun _ => hg2g) (Nat.le_refl _) hsf
    have hl1 : (n.put x kid).names.length = n.names.length + 1 := by
      rw [hput]; simp only [List.length_append, List.length_cons, List.length_take, List.length_drop]; omega
    have hl2 : (n.put x kid).kids.length = n.kids.length + 1 := by
      rw [hput]; simp only [List.length_append, List.length_cons, List.length_take, List.length_drop]; omega
    have hfin := hTB.put (x := x) (kid := kid) hk hh hkn (g1 := g1) (g2 := g2) ((hz.mono fun j e => e.elim (fun e => .inl e) fun e => .inr (.inl e)).trans (hXg.mono fun j e => .inr (.inr e))) hmf hcz hco
      (by rw [hl1, hput]; exact hBf1) (by rw [hl2, hput]; exact hBf2) hg1 (hg2.imp id fun e => by omega) hne
    refine EndV.mk fun w' hw' => ⟨_, rfl, ⟨_, _, hfin.ext hw' hw'.size⟩, ((hz.mono fun j e => ?_).trans (hXg.mono fun j e => by rw [e]; exact hlo')).trans (ExcP.of_ext hw')⟩
    rcases e with ⟨e, e0⟩ | ⟨e, e0⟩
    · obtain ⟨_, _, e', _, _, _, _, hat⟩ := hpn
      rw [e'] at e0
      rw [e]; exact (hat e0).2.1
    · obtain ⟨_, _, e', _, _, _, _, hat⟩ := hpk
      rw [e'] at e0
      rw [e]; exact (hat e0).2.1
end Go.Proofs.YtbnjjpgacemicaaGreatDoor
