/-
  Contracts: DropName; the program's and the reference's.
  Conditions: bounds; the library's variable MaxLen holds some number.
-/
import Derived.Test.YtbnjjpgacemicaaGreatDoorTakeS
import Derived.Test.YtbnjjpgacemicaaGreatDoorDropK
namespace Go.Proofs.YtbnjjpgacemicaaGreatDoor
open Go.RowKit Vc
set_option linter.unusedVariables false
set_option maxHeartbeats 2000000
attribute [local irreducible] WpC WpL WpD WpE WpB CallV QCallV Made AppV Ld LdN Ix EndV I64 MutN Mut CellsAt

theorem set_self {α : Type} {l : List α} {i : Nat} {x : α} (h : l[i]? = some x) : l.set i x = l := by
  refine List.ext_getElem? fun k => ?_
  rw [List.getElem?_set]
  by_cases e : i = k
  · subst e; rw [if_pos rfl, if_pos (List.getElem?_eq_some_iff.1 h).1, h]
  · rw [if_neg e]
def decI (j : Nat) (q : Int) : Int := if (j : Int) < q then q - 1 else q
/-- Nodes that a name was taken from; the node j goes where no name is left for it. -/
def dropped (out : List Nd) (j : Nat) : List Nd := if 0 < (linksOf out).getD j 0 then out else (out.eraseIdx j).map (Nd.mapK (decI j))
theorem del_kids {ts : List Nd} {k p : Nat} {n : Nd} (hn : ts[k]? = some n) {i : Nat} {m : Nd} (hm : (ts.set k (n.del p))[i]? = some m) {q : Int} (hq : q ∈ m.kids) : ∃ m', ts[i]? = some m' ∧ q ∈ m'.kids := by
  rcases set_get hm with ⟨rfl, rfl, _⟩ | ⟨_, hm'⟩
  · exact ⟨n, hn, List.mem_of_mem_eraseIdx hq⟩
  · exact ⟨m, hm', hq⟩
theorem out_sized {ts : List Nd} (hs : Sized ts) {k p : Nat} {n : Nd} (hn : ts[k]? = some n) : Sized (ts.set k (n.del p)) := by
  refine ⟨by rw [List.length_set]; exact hs.1, fun m hm => ?_⟩
  obtain ⟨i, hi⟩ := List.getElem?_of_mem hm
  rcases set_get hi with ⟨rfl, rfl, _⟩ | ⟨_, hm'⟩
  · have := hs.at hn
    have h1 := List.length_eraseIdx_le n.names p
    have h2 := List.length_eraseIdx_le n.kids p
    exact ⟨by show (n.names.eraseIdx p).length ≤ _; omega, by show (n.kids.eraseIdx p).length ≤ _; omega⟩
  · exact hs.at hm'
theorem out_links {ts : List Nd} (hT : TreeOk ts) {k p : Nat} {n : Nd} (hn : ts[k]? = some n) {j : Nat} (hj : n.kids[p]? = some (j : Int)) : (linksOf (ts.set k (n.del p))).length = ts.length ∧
    ∀ i : Nat, i < ts.length → (linksOf (ts.set k (n.del p))).getD i 0 = (linksOf ts).getD i 0 - if j = i then 1 else 0 := by
  have hhi := hT.hi
  have hlo := hT.lo
  have hall : ∀ q ∈ allKids ts, 0 ≤ q ∧ q ≤ (ts.length : Int) - 1 := fun q hq => by
    obtain ⟨i, m, hi, hm⟩ := mem_allKids.1 hq
    have := hT.kids i m hi q hm
    omega
  have hall2 : ∀ q ∈ allKids (ts.set k (n.del p)), 0 ≤ q ∧ q ≤ ((ts.set k (n.del p)).length : Int) - 1 := fun q hq => by
    obtain ⟨i, m, hi, hm⟩ := mem_allKids.1 hq
    obtain ⟨m', hm', hq'⟩ := del_kids hn hi hm
    have := hT.kids i m' hm' q hq'
    rw [List.length_set]; omega
  obtain ⟨a1, a2⟩ := links_count hhi hall
  obtain ⟨b1, b2⟩ := links_count (by rw [List.length_set]; exact hhi) hall2
  rw [List.length_set] at b1 b2
  refine ⟨b1, fun i hi => ?_⟩
  rw [a2 i hi, b2 i hi]
  have h1 := allKids_set (n' := n.del p) (i : Int) hn
  have h2 := count_erase hj (i : Int)
  have h3 : (n.del p).kids = n.kids.eraseIdx p := rfl
  rw [h3] at h1
  by_cases e : j = i
  · subst e
    rw [if_pos rfl] at h2 ⊢
    omega
  · have e2 : ¬ (j : Int) = (i : Int) := by omega
    rw [if_neg e2] at h2
    rw [if_neg e]
    omega
theorem iDropN_vc {lo0 cap' g k j : Nat} {ts : List Nd} {w : World} {ad : Option Addr} {bl : Nat → Bool → Nat} {pv : Nat → Bool → Value} (hTB : TB lo0 w.heap.size w ad cap' g ts bl pv) (hlo : lo0 ≤ w.heap.size) (hs : Sized ts) (hT : TreeOk ts) {n : Nd} (x : ByteArray) (hn : ts[k]? = some n)
    (hnp : n.names[posN n.names x]? = some x) (hkp : n.kids[posN n.names x]? = some (j : Int)) :
    Calls Tryz.prog 37 #[.slice ad ts.length cap', .int .i64 (k : Int), .string x] w fun e w' => ∃ v, e = .returned v ∧ TreeB lo0 w'.heap.size w' v (dropped (ts.set k (n.del (posN n.names x))) j) ∧ ExcP (fun i => lo0 ≤ i) w w' := by
  have hk := (List.getElem?_eq_some_iff.1 hn).1
  have hok := hT.nodes k n hn
  have hkj := hT.kids k n hn (j : Int) (List.mem_of_getElem? hkp)
  have hhi := hT.hi
  have hj : j < ts.length := by omega
  obtain ⟨rfl, hlo3, hhi3, hm3, hcs3⟩ := hTB.open_ hk
  have hck : CellsAt w g (0 + k * 7) (n.cells (pv k true) (pv k false)) := by rw [Nat.zero_add]; exact hcs3 k n hn
  obtain ⟨kad, kcap, ekv, hka⟩ := kids_open (hTB.ndIn hn)
  have hlk := (List.getElem?_eq_some_iff.1 hkp).1
  obtain ⟨kb, ko, rfl, hkb, hkc⟩ := hka (by omega)
  refine calls_of cx_ok Tryz.func37 Tryz.ntmps37 Tryz.results37 rfl rfl ?_
  repeat (first | refine jC ?_ | refine jN ?_ | refine jS ?_ | refine jR ?_ | refine jT ?_ | refine jB ?_ | refine jX rfl ?_ | refine jY rfl ?_ | refine jK ?_ | refine jD ?_ | refine jE ?_)
  refine Ix.mk k rfl hk ?_
  repeat (first | refine jC ?_ | refine jN ?_ | refine jS ?_ | refine jR ?_ | refine jT ?_ | refine jB ?_ | refine jX rfl ?_ | refine jY rfl ?_ | refine jK ?_ | refine jD ?_ | refine jE ?_)
  refine Ld.mk (hck.out 5 _ rfl) ?_
  repeat (first | refine jC ?_ | refine jN ?_ | refine jS ?_ | refine jR ?_ | refine jT ?_ | refine jB ?_ | refine jX rfl ?_ | refine jY rfl ?_ | refine jK ?_ | refine jD ?_ | refine jE ?_)
  refine CallV.val (fun w' hw _ => bs_call n.names _ x w' ((hTB.pc k n true hn).row1.ext hw) (hs.at hn).1 hok.asc') ?_
  repeat (first | refine jC ?_ | refine jN ?_ | refine jS ?_ | refine jR ?_ | refine jT ?_ | refine jB ?_ | refine jX rfl ?_ | refine jY rfl ?_ | refine jK ?_ | refine jD ?_ | refine jE ?_)
  refine Ix.mk k rfl hk ?_
  repeat (first | refine jC ?_ | refine jN ?_ | refine jS ?_ | refine jR ?_ | refine jT ?_ | refine jB ?_ | refine jX rfl ?_ | refine jY rfl ?_ | refine jK ?_ | refine jD ?_ | refine jE ?_)
  refine Ld.mk (hck.out 6 _ rfl) ?_
  rw [ekv]
  repeat (first | refine jC ?_ | refine jN ?_ | refine jS ?_ | refine jR ?_ | refine jT ?_ | refine jB ?_ | refine jX rfl ?_ | refine jY rfl ?_ | refine jK ?_ | refine jD ?_ | refine jE ?_)
  refine Ix.mk (posN n.names x) rfl hlk ?_
  repeat (first | refine jC ?_ | refine jN ?_ | refine jS ?_ | refine jR ?_ | refine jT ?_ | refine jB ?_ | refine jX rfl ?_ | refine jY rfl ?_ | refine jK ?_ | refine jD ?_ | refine jE ?_)
  refine Ld.mk (hkc.out _ (.int .i64 (j : Int)) (by rw [List.getElem?_map, hkp]; rfl)) ?_
  repeat (first | refine jC ?_ | refine jN ?_ | refine jS ?_ | refine jR ?_ | refine jT ?_ | refine jB ?_ | refine jX rfl ?_ | refine jY rfl ?_ | refine jK ?_ | refine jD ?_ | refine jE ?_)
  have hpn := hTB.pc k n true hn
  have hpk := hTB.pc k n false hn
  have hgn := hTB.neG k true hk
  have hgk := hTB.neG k false hk
  have hnk := hTB.ne k true k false hk hk (.inr (by simp))
  simp only [contN, cont] at hpn hpk
  have hcD : ∀ w', ExcP (fun j => (j = bl k true ∧ 0 < capV (pv k true)) ∨ (j = bl k false ∧ 0 < capV (pv k false))) w w' → CellsAt w' g (0 + k * 7) (n.cells (pv k true) (pv k false)) := fun w' hw => by
    rw [Nat.zero_add]
    exact (hcs3 k n hn).exc hhi3 hw (by rintro (⟨e, e0⟩ | ⟨e, e0⟩); exact hgn e0 e.symm; exact hgk e0 e.symm)
  have hpl : posN n.names x < n.names.length := (List.getElem?_eq_some_iff.1 hnp).1
  have hsl := hs.at hn
  have hlen := hok.len
  generalize posN n.names x = p at hnp hkp hpl ⊢
  refine WpC.drawD (ExcP (fun j => (j = bl k true ∧ 0 < capV (pv k true)) ∨ (j = bl k false ∧ 0 < capV (pv k false))) w) (fun w' hw => ExcP.of_ext hw) (.st 0 (.st 1 (.st 2 (.st 3 (.st 4 (.st 5 (.st 6 (.st 7 (.st 8 (.st 9 (.st 10 (.st 11 (.st 13 (.st 14 (.st 15 (.st 16 (.st 17 (.st 18 (.st 19 (.st 20 (.ef 12 (.ef 21 (.st 22 (.st 23 (.ef 24 (.st 25 (.st 26 (.ef 27 .done .done))) .done))) .done) .done))))))))))))))))))))) [(0, .mv), (1, .mv), (2, .mv), (3, .mv), (4, .mv), (5, .mv), (9, .mv), (10, .mv), (12, .ef), (13, .mv), (14, .mv), (18, .mv), (19, .mv), (21, .ef), (24, .br), (27, .br)] (by kernel_rfl) ?_
  repeat (first | refine uM ?_ | refine uR ?_ | refine uE ?_ | refine uB ?_ | refine uA ?_ | refine uD ?_ | refine jC ?_ | refine jN ?_ | refine jS ?_ | refine jR ?_ | refine jT ?_ | refine jB ?_ | refine jX rfl ?_ | refine jY rfl ?_ | refine jK ?_ | refine jD ?_ | refine jE ?_)
  refine WpE.rdD (by exact rfl) (by exact rfl) ?_
  refine ⟨_, fun w' hw => Ix.mk k rfl hk rfl, ?_⟩
  repeat (first | refine uM ?_ | refine uR ?_ | refine uE ?_ | refine uB ?_ | refine uA ?_ | refine uD ?_ | refine jC ?_ | refine jN ?_ | refine jS ?_ | refine jR ?_ | refine jT ?_ | refine jB ?_ | refine jX rfl ?_ | refine jY rfl ?_ | refine jK ?_ | refine jD ?_ | refine jE ?_)
  refine WpE.rdD (by exact rfl) (by exact rfl) ?_
  refine ⟨_, fun w' hw => rfl, ?_⟩
  repeat (first | refine uM ?_ | refine uR ?_ | refine uE ?_ | refine uB ?_ | refine uA ?_ | refine uD ?_ | refine jC ?_ | refine jN ?_ | refine jS ?_ | refine jR ?_ | refine jT ?_ | refine jB ?_ | refine jX rfl ?_ | refine jY rfl ?_ | refine jK ?_ | refine jD ?_ | refine jE ?_)
  refine WpE.rdD (by exact rfl) (by exact rfl) ?_
  refine ⟨_, fun w' hw => Ld.mk ((hcD w' hw).out 5 _ rfl) rfl, ?_⟩
  repeat (first | refine uM ?_ | refine uR ?_ | refine uE ?_ | refine uB ?_ | refine uA ?_ | refine uD ?_ | refine jC ?_ | refine jN ?_ | refine jS ?_ | refine jR ?_ | refine jT ?_ | refine jB ?_ | refine jX rfl ?_ | refine jY rfl ?_ | refine jK ?_ | refine jD ?_ | refine jE ?_)
  refine WpE.rdD (by exact rfl) (by exact rfl) ?_
  refine ⟨_, fun w' hw => ⟨I64.mk (by omega), rfl⟩, ?_⟩
  repeat (first | refine uM ?_ | refine uR ?_ | refine uE ?_ | refine uB ?_ | refine uA ?_ | refine uD ?_ | refine jC ?_ | refine jN ?_ | refine jS ?_ | refine jR ?_ | refine jT ?_ | refine jB ?_ | refine jX rfl ?_ | refine jY rfl ?_ | refine jK ?_ | refine jD ?_ | refine jE ?_)
  refine WpE.rdD (by exact rfl) (by exact rfl) ?_
  refine ⟨_, fun w' hw => Ix.mk k rfl hk rfl, ?_⟩
  repeat (first | refine uM ?_ | refine uR ?_ | refine uE ?_ | refine uB ?_ | refine uA ?_ | refine uD ?_ | refine jC ?_ | refine jN ?_ | refine jS ?_ | refine jR ?_ | refine jT ?_ | refine jB ?_ | refine jX rfl ?_ | refine jY rfl ?_ | refine jK ?_ | refine jD ?_ | refine jE ?_)
  refine WpE.rdD (by exact rfl) (by exact rfl) ?_
  refine ⟨_, fun w' hw => rfl, ?_⟩
  repeat (first | refine uM ?_ | refine uR ?_ | refine uE ?_ | refine uB ?_ | refine uA ?_ | refine uD ?_ | refine jC ?_ | refine jN ?_ | refine jS ?_ | refine jR ?_ | refine jT ?_ | refine jB ?_ | refine jX rfl ?_ | refine jY rfl ?_ | refine jK ?_ | refine jD ?_ | refine jE ?_)
  refine WpE.rdD (by exact rfl) (by exact rfl) ?_
  refine ⟨_, fun w' hw => Ld.mk ((hcD w' hw).out 6 _ rfl) rfl, ?_⟩
  repeat (first | refine uM ?_ | refine uR ?_ | refine uE ?_ | refine uB ?_ | refine uA ?_ | refine uD ?_ | refine jC ?_ | refine jN ?_ | refine jS ?_ | refine jR ?_ | refine jT ?_ | refine jB ?_ | refine jX rfl ?_ | refine jY rfl ?_ | refine jK ?_ | refine jD ?_ | refine jE ?_)
  refine WpE.rdD (by exact rfl) (by exact rfl) ?_
  refine ⟨_, fun w' hw => ⟨I64.mk (by omega), rfl⟩, ?_⟩
  repeat (first | refine uM ?_ | refine uR ?_ | refine uE ?_ | refine uB ?_ | refine uA ?_ | refine uD ?_ | refine jC ?_ | refine jN ?_ | refine jS ?_ | refine jR ?_ | refine jT ?_ | refine jB ?_ | refine jX rfl ?_ | refine jY rfl ?_ | refine jK ?_ | refine jD ?_ | refine jE ?_)
  refine CallV.turn _ (fun w' hw _ => deleteS_call n.names (pv k true) (bl k true) p w' (hpn.ext hw (Nat.le_refl _)) hpl hsl.1) (fun v1 wx wy hxx hΦ => ?_)
  obtain ⟨hBn, _, hcap1, hXn⟩ := hΦ
  obtain ⟨ad1, cap1, rfl, _⟩ := id hBn
  have hX1 : ExcP (fun j => j = bl k true ∧ 0 < capV (pv k true)) w wy := (ExcP.of_ext hxx).trans (hXn.mono fun j e => ⟨e, hcap1⟩)
  refine ⟨Keep.mk fun w' hw => (hX1.mono fun j e => .inl e).trans (ExcP.of_ext hw), ?_⟩
  repeat (first | refine uM ?_ | refine uR ?_ | refine uE ?_ | refine uB ?_ | refine uA ?_ | refine uD ?_ | refine jC ?_ | refine jN ?_ | refine jS ?_ | refine jR ?_ | refine jT ?_ | refine jB ?_ | refine jX rfl ?_ | refine jY rfl ?_ | refine jK ?_ | refine jD ?_ | refine jE ?_)
  refine CallV.turn _ (fun w' hw _ => deleteI_call n.kids (pv k false) (bl k false) p w' ((hpk.exc (hX1.trans (ExcP.of_ext hw)) (fun hc e => hnk e.2 hc e.1.symm) (Nat.le_refl _) (Nat.le_refl _))) (by omega) hsl.2) (fun v2 wu wz hxu hΦ => ?_)
  obtain ⟨hBk, _, hcap2, hXk⟩ := hΦ
  obtain ⟨ad2, cap2, rfl, _⟩ := id hBk
  have hz : ExcP (fun j => (j = bl k true ∧ 0 < capV (pv k true)) ∨ (j = bl k false ∧ 0 < capV (pv k false))) w wz := ((hX1.mono fun j e => .inl e).trans (ExcP.of_ext hxu)).trans (hXk.mono fun j e => .inr ⟨e, hcap2⟩)
  have hszn := hX1.size
  have hszu := hxu.size
  have hblk1 := (hpn.blk hcap1)
  have hblk2 := (hpk.blk hcap2)
  have hBnz := (hBn.ext hxu (Nat.le_refl _)).exc hXk (fun _ e => hnk hcap1 hcap2 e) (by omega) (Nat.le_refl _)
  refine ⟨Keep.mk fun w' hw => hz.trans (ExcP.of_ext hw), ?_⟩
  repeat (first | refine uM ?_ | refine uR ?_ | refine uE ?_ | refine uB ?_ | refine uA ?_ | refine uD ?_ | refine jC ?_ | refine jN ?_ | refine jS ?_ | refine jR ?_ | refine jT ?_ | refine jB ?_ | refine jX rfl ?_ | refine jY rfl ?_ | refine jK ?_ | refine jD ?_ | refine jE ?_)
  refine WpE.rdD (by exact rfl) (by exact rfl) ?_
  refine ⟨_, fun w' hw => Ix.mk k rfl hk rfl, ?_⟩
  repeat (first | refine uM ?_ | refine uR ?_ | refine uE ?_ | refine uB ?_ | refine uA ?_ | refine uD ?_ | refine jC ?_ | refine jN ?_ | refine jS ?_ | refine jR ?_ | refine jT ?_ | refine jB ?_ | refine jX rfl ?_ | refine jY rfl ?_ | refine jK ?_ | refine jD ?_ | refine jE ?_)
  refine WpE.rdD (by exact rfl) (by exact rfl) ?_
  refine ⟨_, fun w' hw => rfl, ?_⟩
  repeat (first | refine uM ?_ | refine uR ?_ | refine uE ?_ | refine uB ?_ | refine uA ?_ | refine uD ?_ | refine jC ?_ | refine jN ?_ | refine jS ?_ | refine jR ?_ | refine jT ?_ | refine jB ?_ | refine jX rfl ?_ | refine jY rfl ?_ | refine jK ?_ | refine jD ?_ | refine jE ?_)
  have hgD : ¬ ((g = bl k true ∧ 0 < capV (pv k true)) ∨ (g = bl k false ∧ 0 < capV (pv k false))) := by
    rintro (⟨e, e0⟩ | ⟨e, e0⟩)
    · exact hgn e0 e.symm
    · exact hgk e0 e.symm
  have hmz : MutN wz g 0 (cap' * 7) := hm3.exc hhi3 hz hgD
  have hle3 := hTB.le
  refine ⟨by have := hmz.sub (k := k * 7 + 5) (m := 1) (by omega); rwa [← Nat.add_assoc] at this, trivial, rfl, by simp [Value.oneCell'], ?_⟩
  repeat (first | refine uM ?_ | refine uR ?_ | refine uE ?_ | refine uB ?_ | refine uA ?_ | refine uD ?_ | refine jC ?_ | refine jN ?_ | refine jS ?_ | refine jR ?_ | refine jT ?_ | refine jB ?_ | refine jX rfl ?_ | refine jY rfl ?_ | refine jK ?_ | refine jD ?_ | refine jE ?_)
  have hmz1 : MutN (setL wz g (0 + k * 7 + 5) [.slice ad1 (n.names.length - 1) cap1]) g 0 (cap' * 7) := MutN.setL _ _ _ hmz
  refine Ix.mk k rfl hk ?_
  repeat (first | refine uM ?_ | refine uR ?_ | refine uE ?_ | refine uB ?_ | refine uA ?_ | refine uD ?_ | refine jC ?_ | refine jN ?_ | refine jS ?_ | refine jR ?_ | refine jT ?_ | refine jB ?_ | refine jX rfl ?_ | refine jY rfl ?_ | refine jK ?_ | refine jD ?_ | refine jE ?_)
  refine ⟨by have := hmz1.sub (k := k * 7 + 6) (m := 1) (by omega); rwa [← Nat.add_assoc] at this, trivial, rfl, by simp [Value.oneCell'], ?_⟩
  have hXg : ExcP (fun j => j = g) wz (setL (setL wz g (0 + k * 7 + 5) [.slice ad1 (n.names.length - 1) cap1]) g (0 + k * 7 + 6) [.slice ad2 (n.kids.length - 1) cap2]) := ((ExcP.refl (fun j => j = g) wz).setL (S := fun j => j = g) rfl _ _).setL (S := fun j => j = g) rfl _ _
  have hcz : CellsAt (setL (setL wz g (0 + k * 7 + 5) [.slice ad1 (n.names.length - 1) cap1]) g (0 + k * 7 + 6) [.slice ad2 (n.kids.length - 1) cap2]) g (0 + k * 7) (((n.cells (pv k true) (pv k false)).set 5 (.slice ad1 (n.names.length - 1) cap1)).set 6 (.slice ad2 (n.kids.length - 1) cap2)) :=
    ((hcD wz hz).setAt (by have := hmz.sub (k := k * 7 + 5) (m := 1) (by omega); rwa [← Nat.add_assoc] at this) (by simp)).setAt (by have := hmz1.sub (k := k * 7 + 6) (m := 1) (by omega); rwa [← Nat.add_assoc] at this) (by simp)
  have hco : ∀ i m, i ≠ k → ts[i]? = some m → CellsAt (setL (setL wz g (0 + k * 7 + 5) [.slice ad1 (n.names.length - 1) cap1]) g (0 + k * 7 + 6) [.slice ad2 (n.kids.length - 1) cap2]) g (i * 7) (m.cells (pv i true) (pv i false)) := fun i m hik hm' => by
    have e : (m.cells (pv i true) (pv i false)).length = 7 := rfl
    exact (((hcs3 i m hm').exc hhi3 hz hgD).setL_out (.inr (by rw [e]; simp only [List.length_cons, List.length_nil]; omega))).setL_out (.inr (by rw [e]; simp only [List.length_cons, List.length_nil]; omega))
  have hmf : MutN (setL (setL wz g (0 + k * 7 + 5) [.slice ad1 (n.names.length - 1) cap1]) g (0 + k * 7 + 6) [.slice ad2 (n.kids.length - 1) cap2]) g 0 (cap' * 7) := MutN.setL _ _ _ hmz1
  have hl1 : (n.del p).names.length = n.names.length - 1 := by show (n.names.eraseIdx p).length = _; rw [List.length_eraseIdx, if_pos hpl]
  have hl2 : (n.del p).kids.length = n.kids.length - 1 := by show (n.kids.eraseIdx p).length = _; rw [List.length_eraseIdx, if_pos (by omega)]
  have hTBd := hTB.same (n' := n.del p) (v1 := .slice ad1 (n.names.length - 1) cap1) (v2 := .slice ad2 (n.kids.length - 1) cap2) hn (Nat.le_refl _) ((hz.mono fun j e => e.elim (fun e => .inl e) fun e => .inr (.inl e)).trans (hXg.mono fun j e => .inr (.inr e))) hmf (CellsAt.off hcz (Nat.zero_add _)) hco
    (by rw [hl1]; exact hBnz.exc hXg (fun _ e => hgn hcap1 e) (by have := hXk.size; omega) (Nat.le_refl _)) (by rw [hl2]; exact hBk.exc hXg (fun _ e => hgk hcap2 e) (by have := hXk.size; omega) (Nat.le_refl _)) hcap1 hcap2
  have hXd : ExcP (fun j => lo0 ≤ j) w (setL (setL wz g (0 + k * 7 + 5) [.slice ad1 (n.names.length - 1) cap1]) g (0 + k * 7 + 6) [.slice ad2 (n.kids.length - 1) cap2]) := (hz.mono fun j e => by rcases e with ⟨e, _⟩ | ⟨e, _⟩ <;> omega).trans (hXg.mono fun j e => by omega)
  repeat (first | refine uM ?_ | refine uR ?_ | refine uE ?_ | refine uB ?_ | refine uA ?_ | refine uD ?_)
  have hdl := out_links hT hn hkp
  have hso := out_sized hs hn (p := p)
  have hin : ∀ (i : Nat) (m : Nd), (ts.set k (n.del p))[i]? = some m → ∀ q ∈ m.kids, 1 ≤ q ∧ q ≤ 16 := fun i m hi q hq => by
    obtain ⟨m', hm', hq'⟩ := del_kids hn hi hq
    have := hT.kids i m' hm' q hq'
    omega
  refine WpC.now (fun ws hxs _ => ?_)
  have hszd := hXd.size
  have hszs := hxs.size
  have hTBs := hTBd.ext (hi' := ws.heap.size) hxs (by omega)
  have hXs := hXd.trans (ExcP.of_ext hxs)
  have hol : (ts.set k (n.del p)).length = ts.length := by rw [List.length_set]
  generalize ts.set k (n.del p) = out at hdl hso hin hTBs hol ⊢
  clear hTBd hcz hco hmf hXg hmz hmz1 hBn hBk hBnz hX1 hz hXn hXk hcD hxx hxu hXd
  repeat (first | refine jC ?_ | refine jN ?_ | refine jS ?_ | refine jR ?_ | refine jT ?_ | refine jB ?_ | refine jX rfl ?_ | refine jY rfl ?_ | refine jK ?_ | refine jD ?_ | refine jE ?_)
  refine CallV.mem _ (fun w' hw _ => iLinksOf_vc out _ w' ((hTBs.fin (Nat.le_refl _) (Nat.le_refl _) hol).tree.ext hw) hso) (fun xl wa wb hxa hxb _ ⟨adl, nl, capl, el, hBl⟩ => ?_)
  subst el
  have hnl : nl = ts.length := by have := hBl.len; simp at this; omega
  subst hnl
  obtain ⟨gl, el, _, hgl⟩ : ∃ gl, adl = some ⟨gl, 0, none⟩ ∧ True ∧ CellsAt wb gl 0 (ints (linksOf out)) := by
    cases adl with
    | none => have := hBl.nil rfl; have := hBl.le; omega
    | some q => obtain ⟨gl, e, _, _, _, h5⟩ := hBl.at_ q rfl; exact ⟨gl, by rw [e], trivial, h5⟩
  subst el
  repeat (first | refine jC ?_ | refine jN ?_ | refine jS ?_ | refine jR ?_ | refine jT ?_ | refine jB ?_ | refine jX rfl ?_ | refine jY rfl ?_ | refine jK ?_ | refine jD ?_ | refine jE ?_)
  refine Ix.mk j rfl hj ?_
  repeat (first | refine jC ?_ | refine jN ?_ | refine jS ?_ | refine jR ?_ | refine jT ?_ | refine jB ?_ | refine jX rfl ?_ | refine jY rfl ?_ | refine jK ?_ | refine jD ?_ | refine jE ?_)
  refine Ld.mk (hgl.out j _ (ints_get (by rw [hdl.1]; exact hj))) ?_
  repeat (first | refine jC ?_ | refine jN ?_ | refine jS ?_ | refine jR ?_ | refine jT ?_ | refine jB ?_ | refine jX rfl ?_ | refine jY rfl ?_ | refine jK ?_ | refine jD ?_ | refine jE ?_)
  have hxab := hxa.trans hxb
  have hXb := hXs.trans (ExcP.of_ext hxab)
  have hTBb := hTBs.ext (hi' := wb.heap.size) hxab hxab.size
  refine Br.intro (fun h => ?_) (fun h => ?_)
  · have h := of_decide_eq_true h
    rw [dropped, if_pos h]
    repeat (first | refine jC ?_ | refine jN ?_ | refine jS ?_ | refine jR ?_ | refine jT ?_ | refine jB ?_ | refine jX rfl ?_ | refine jY rfl ?_ | refine jK ?_ | refine jD ?_ | refine jE ?_)
    exact EndV.mk fun w' hw' => ⟨_, rfl, (hTBb.ext (hi' := w'.heap.size) hw' hw'.size).fin (Nat.le_refl _) (Nat.le_refl _) hol, hXb.trans (ExcP.of_ext hw')⟩
  have h := of_decide_eq_false h
  rw [dropped, if_neg h]
  repeat (first | refine jC ?_ | refine jN ?_ | refine jS ?_ | refine jR ?_ | refine jT ?_ | refine jB ?_ | refine jX rfl ?_ | refine jY rfl ?_ | refine jK ?_ | refine jD ?_ | refine jE ?_)
  refine ⟨I64.mk (by omega), ?_⟩
  repeat (first | refine jC ?_ | refine jN ?_ | refine jS ?_ | refine jR ?_ | refine jT ?_ | refine jB ?_ | refine jX rfl ?_ | refine jY rfl ?_ | refine jK ?_ | refine jD ?_ | refine jE ?_)
  rw [← hol]
  refine CallV.turn (Φ := fun v w1 w' => (v = .slice (some ⟨g, 0, none⟩) (out.eraseIdx j).length cap' ∧ TB lo0 wb.heap.size w' (some ⟨g, 0, none⟩) cap' g (out.eraseIdx j) (fun i b => bl (sk j i) b) (fun i b => (if sk j i = k then cond b (Value.slice ad1 (n.names.length - 1) cap1) (Value.slice ad2 (n.kids.length - 1) cap2) else pv (sk j i) b))) ∧ ExcP (fun i => i = g) w1 w') (fun w' hw _ => deleteN_vc (hTBb.ext hw (Nat.le_refl _)) hw.size (by omega) (by omega) _ (by omega)) (fun v w1 w2 hw1 ⟨⟨ev, hT2⟩, hX2⟩ => ?_)
  subst ev
  have hXw2 := (hXb.trans (ExcP.of_ext hw1)).trans (hX2.mono fun i e => by omega)
  have hz2 : wb.heap.size ≤ w2.heap.size := Nat.le_trans hw1.size hX2.size
  have hin2 : ∀ (i : Nat) (m : Nd), (out.eraseIdx j)[i]? = some m → ∀ q ∈ m.kids, 1 ≤ q ∧ q ≤ 16 := fun i m hi => hin _ m (erase_at hi)
  have hul : (out.eraseIdx j).length ≤ 16 := by have := List.length_eraseIdx_le out j; omega
  generalize (fun i b => bl (sk j i) b) = ble at hT2
  generalize (fun i b => (if sk j i = k then cond b (Value.slice ad1 (n.names.length - 1) cap1) (Value.slice ad2 (n.kids.length - 1) cap2) else pv (sk j i) b)) = pve at hT2
  generalize out.eraseIdx j = us at hT2 hin2 hul ⊢
  repeat (first | refine jC ?_ | refine jN ?_ | refine jS ?_ | refine jR ?_ | refine jT ?_ | refine jB ?_ | refine jX rfl ?_ | refine jY rfl ?_ | refine jK ?_ | refine jD ?_ | refine jE ?_)
  refine WpC.loop (α := Nat × World) (fun y => ⟨[(0, .v (.slice (some ⟨g, 0, none⟩) us.length cap')), (9, .v (.int .i64 (j : Int))), (70, .v (.slice (some ⟨g, 0, none⟩) us.length cap')), (71, .v (.int .i64 (us.length : Int))), (72, .v (.int .i64 (y.1 : Int)))], [], y.2⟩)
    (fun y => y.1 ≤ us.length ∧ wb.heap.size ≤ y.2.heap.size ∧ ExcP (fun i => lo0 ≤ i) w y.2 ∧ TB lo0 wb.heap.size y.2 (some ⟨g, 0, none⟩) cap' g (midK (decI j) us y.1) ble pve) (fun y => us.length - y.1) (0, w2)
    ⟨Nat.zero_le _, hz2, hXw2, by dsimp only; rw [midK_zero]; exact hT2⟩ ⟨⟨rfl, rfl, rfl, rfl, rfl, trivial⟩, trivial, trivial, Vc.Ext.refl _⟩ ?_
  rintro ⟨i, wi⟩ ⟨hi, hzi, hXi, hTi⟩
  dsimp only at hi hzi hXi hTi ⊢
  repeat (first | refine jC ?_ | refine jN ?_ | refine jS ?_ | refine jR ?_ | refine jT ?_ | refine jB ?_ | refine jX rfl ?_ | refine jY rfl ?_ | refine jK ?_ | refine jD ?_ | refine jE ?_)
  refine Br.intro (fun h1 => ?_) (fun h1 => ?_)
  · have hlt : i < us.length := by have := of_decide_eq_true h1; omega
    have hu : us[i]? = some us[i] := List.getElem?_eq_getElem hlt
    generalize us[i] = m at hu
    have hmi := (midK_at (φ := decI j) us i).trans hu
    have hlm : i < (midK (decI j) us i).length := by rw [midK_length]; exact hlt
    obtain ⟨_, _, _, hmu, hcs⟩ := hTi.open_ hlm
    have hcm : CellsAt wi g (0 + i * 7) (m.cells (pve i true) (pve i false)) := by rw [Nat.zero_add]; exact hcs i m hmi
    obtain ⟨adn, capn, evn, _⟩ := hTi.pc i m true hmi
    obtain ⟨adk, capk, evk, hkl1, hkl2, _⟩ := hTi.pc i m false hmi
    rw [evn, evk] at hcm
    simp only [contN] at hcm evk hkl1
    repeat (first | refine jC ?_ | refine jN ?_ | refine jS ?_ | refine jR ?_ | refine jT ?_ | refine jB ?_ | refine jX rfl ?_ | refine jY rfl ?_ | refine jK ?_ | refine jD ?_ | refine jE ?_)
    refine Ix.mk i rfl hlt ?_
    repeat (first | refine jC ?_ | refine jN ?_ | refine jS ?_ | refine jR ?_ | refine jT ?_ | refine jB ?_ | refine jX rfl ?_ | refine jY rfl ?_ | refine jK ?_ | refine jD ?_ | refine jE ?_)
    refine LdN.mk hcm rfl ?_
    repeat (first | refine jC ?_ | refine jN ?_ | refine jS ?_ | refine jR ?_ | refine jT ?_ | refine jB ?_ | refine jX rfl ?_ | refine jY rfl ?_ | refine jK ?_ | refine jD ?_ | refine jE ?_)
    intro b11 hb11
    repeat (first | refine jC ?_ | refine jN ?_ | refine jS ?_ | refine jR ?_ | refine jT ?_ | refine jB ?_ | refine jX rfl ?_ | refine jY rfl ?_ | refine jK ?_ | refine jD ?_ | refine jE ?_)
    refine ⟨by assumption, rfl, by simp, by simp [Value.oneCell'], ?_⟩
    repeat (first | refine jC ?_ | refine jN ?_ | refine jS ?_ | refine jR ?_ | refine jT ?_ | refine jB ?_ | refine jX rfl ?_ | refine jY rfl ?_ | refine jK ?_ | refine jD ?_ | refine jE ?_)
    refine WpC.loop (α := Nat × World) (fun y => ⟨[(0, .v (.slice (some ⟨g, 0, none⟩) us.length cap')), (9, .v (.int .i64 (j : Int))), (70, .v (.slice (some ⟨g, 0, none⟩) us.length cap')), (71, .v (.int .i64 (us.length : Int))), (72, .v (.int .i64 (i : Int))), (11, .own 0 0), (77, .v (.slice adk m.kids.length capk)), (78, .v (.int .i64 (m.kids.length : Int))), (79, .v (.int .i64 (y.1 : Int)))], [⟨b11, m.cells (.slice adn m.names.length capn) (.slice adk m.kids.length capk), 52⟩], y.2⟩)
      (fun y => y.1 ≤ m.kids.length ∧ wb.heap.size ≤ y.2.heap.size ∧ ExcP (fun i => lo0 ≤ i) w y.2 ∧ TB lo0 wb.heap.size y.2 (some ⟨g, 0, none⟩) cap' g ((midK (decI j) us i).set i (m.midN (decI j) y.1)) ble pve) (fun y => m.kids.length - y.1) (0, wi)
      ⟨Nat.zero_le _, hzi, hXi, by dsimp only; rw [midN_zero, set_self hmi]; exact hTi⟩ ⟨⟨rfl, rfl, rfl, rfl, rfl, rfl, rfl, rfl, rfl, trivial⟩, ⟨rfl, trivial⟩, ⟨rfl, trivial⟩, Vc.Ext.refl _⟩ ?_
    rintro ⟨jj, wj⟩ ⟨hjj, hzj, hXj, hTj⟩
    dsimp only at hjj hzj hXj hTj ⊢
    repeat (first | refine jC ?_ | refine jN ?_ | refine jS ?_ | refine jR ?_ | refine jT ?_ | refine jB ?_ | refine jX rfl ?_ | refine jY rfl ?_ | refine jK ?_ | refine jD ?_ | refine jE ?_)
    refine Br.intro (fun h2 => ?_) (fun h2 => ?_)
    · have hlt2 : jj < m.kids.length := by have := of_decide_eq_true h2; omega
      have hq : m.kids[jj]? = some m.kids[jj] := List.getElem?_eq_getElem hlt2
      generalize m.kids[jj] = q at hq
      have hqr := hin2 i m hu q (List.mem_of_getElem? hq)
      have hmj : ((midK (decI j) us i).set i (m.midN (decI j) jj))[i]? = some (m.midN (decI j) jj) := by rw [List.getElem?_set_self hlm]
      have hkl : jj < (m.midN (decI j) jj).kids.length := by show jj < (kidsMid (decI j) m.kids jj).length; rw [kidsMid_length]; exact hlt2
      obtain ⟨⟨kc2, evk2⟩, hm1, hbr, hck2, hT3⟩ := hTj.kidAt hzj hmj hkl (q - 1)
      have el : (m.midN (decI j) jj).kids.length = m.kids.length := kidsMid_length _ _
      rw [evk, el] at evk2
      simp only [Value.slice.injEq] at evk2
      obtain ⟨rfl, _, rfl⟩ := evk2
      have hqc := hck2.out jj (.int .i64 q) (by rw [List.getElem?_map]; show ((kidsMid (decI j) m.kids jj)[jj]?).map _ = _; rw [kidsMid_at, hq]; rfl)
      repeat (first | refine jC ?_ | refine jN ?_ | refine jS ?_ | refine jR ?_ | refine jT ?_ | refine jB ?_ | refine jX rfl ?_ | refine jY rfl ?_ | refine jK ?_ | refine jD ?_ | refine jE ?_)
      refine Ix.mk jj rfl hlt2 ?_
      repeat (first | refine jC ?_ | refine jN ?_ | refine jS ?_ | refine jR ?_ | refine jT ?_ | refine jB ?_ | refine jX rfl ?_ | refine jY rfl ?_ | refine jK ?_ | refine jD ?_ | refine jE ?_)
      refine Ld.mk hqc ?_
      repeat (first | refine jC ?_ | refine jN ?_ | refine jS ?_ | refine jR ?_ | refine jT ?_ | refine jB ?_ | refine jX rfl ?_ | refine jY rfl ?_ | refine jK ?_ | refine jD ?_ | refine jE ?_)
      refine Br.intro (fun h3 => ?_) (fun h3 => ?_)
      · have h3 := of_decide_eq_true h3
        have e3 : decI j q = q - 1 := by rw [decI, if_pos h3]
        repeat (first | refine jC ?_ | refine jN ?_ | refine jS ?_ | refine jR ?_ | refine jT ?_ | refine jB ?_ | refine jX rfl ?_ | refine jY rfl ?_ | refine jK ?_ | refine jD ?_ | refine jE ?_)
        refine Ix.mk jj rfl hlt2 ?_
        repeat (first | refine jC ?_ | refine jN ?_ | refine jS ?_ | refine jR ?_ | refine jT ?_ | refine jB ?_ | refine jX rfl ?_ | refine jY rfl ?_ | refine jK ?_ | refine jD ?_ | refine jE ?_)
        refine Ld.mk hqc ?_
        repeat (first | refine jC ?_ | refine jN ?_ | refine jS ?_ | refine jR ?_ | refine jT ?_ | refine jB ?_ | refine jX rfl ?_ | refine jY rfl ?_ | refine jK ?_ | refine jD ?_ | refine jE ?_)
        refine ⟨I64.mk (by omega), ?_⟩
        repeat (first | refine jC ?_ | refine jN ?_ | refine jS ?_ | refine jR ?_ | refine jT ?_ | refine jB ?_ | refine jX rfl ?_ | refine jY rfl ?_ | refine jK ?_ | refine jD ?_ | refine jE ?_)
        refine Ix.mk jj rfl hlt2 ?_
        repeat (first | refine jC ?_ | refine jN ?_ | refine jS ?_ | refine jR ?_ | refine jT ?_ | refine jB ?_ | refine jX rfl ?_ | refine jY rfl ?_ | refine jK ?_ | refine jD ?_ | refine jE ?_)
        refine ⟨hm1, ⟨by show b11 ≠ _; omega, trivial⟩, rfl, by simp [Value.oneCell'], ?_⟩
        repeat (first | refine jC ?_ | refine jN ?_ | refine jS ?_ | refine jR ?_ | refine jT ?_ | refine jB ?_ | refine jX rfl ?_ | refine jY rfl ?_ | refine jK ?_ | refine jD ?_ | refine jE ?_)
        refine ⟨I64.mk (by omega), ?_⟩
        repeat (first | refine jC ?_ | refine jN ?_ | refine jS ?_ | refine jR ?_ | refine jT ?_ | refine jB ?_ | refine jX rfl ?_ | refine jY rfl ?_ | refine jK ?_ | refine jD ?_ | refine jE ?_)
        refine ⟨(jj + 1, setL wj (ble i false) (0 + jj) [.int .i64 (q - 1)]), ⟨hlt2, by rw [setL_size]; exact hzj, hXj.setL (g := ble i false) hbr.1 _ _, ?_⟩, by show m.kids.length - (jj + 1) < m.kids.length - jj; omega, ⟨rfl, rfl, rfl, rfl, rfl, rfl, rfl, rfl, rfl, trivial⟩, ⟨rfl, trivial⟩, ⟨rfl, trivial⟩, Vc.Ext.refl _⟩
        dsimp only
        rw [← e3, midN_succ hq, List.set_set] at hT3
        rw [← e3]
        exact hT3
      · have h3 := of_decide_eq_false h3
        have e3 : decI j q = q := by rw [decI, if_neg h3]
        repeat (first | refine jC ?_ | refine jN ?_ | refine jS ?_ | refine jR ?_ | refine jT ?_ | refine jB ?_ | refine jX rfl ?_ | refine jY rfl ?_ | refine jK ?_ | refine jD ?_ | refine jE ?_)
        refine ⟨I64.mk (by omega), ?_⟩
        repeat (first | refine jC ?_ | refine jN ?_ | refine jS ?_ | refine jR ?_ | refine jT ?_ | refine jB ?_ | refine jX rfl ?_ | refine jY rfl ?_ | refine jK ?_ | refine jD ?_ | refine jE ?_)
        refine ⟨(jj + 1, wj), ⟨hlt2, hzj, hXj, ?_⟩, by show m.kids.length - (jj + 1) < m.kids.length - jj; omega, ⟨rfl, rfl, rfl, rfl, rfl, rfl, rfl, rfl, rfl, trivial⟩, ⟨rfl, trivial⟩, ⟨rfl, trivial⟩, Vc.Ext.refl _⟩
        dsimp only
        rw [midN_same hq e3]
        exact hTj
    · have hje : jj = m.kids.length := by have := of_decide_eq_false h2; omega
      subst hje
      rw [midN_all, midK_succ hu] at hTj
      repeat (first | refine jC ?_ | refine jN ?_ | refine jS ?_ | refine jR ?_ | refine jT ?_ | refine jB ?_ | refine jX rfl ?_ | refine jY rfl ?_ | refine jK ?_ | refine jD ?_ | refine jE ?_)
      refine ⟨I64.mk (by omega), ?_⟩
      repeat (first | refine jC ?_ | refine jN ?_ | refine jS ?_ | refine jR ?_ | refine jT ?_ | refine jB ?_ | refine jX rfl ?_ | refine jY rfl ?_ | refine jK ?_ | refine jD ?_ | refine jE ?_)
      exact ⟨(i + 1, wj), ⟨hlt, hzj, hXj, hTj⟩, by show us.length - (i + 1) < us.length - i; omega, ⟨rfl, rfl, rfl, rfl, rfl, trivial⟩, trivial, trivial, Vc.Ext.refl _⟩
  · have hie : i = us.length := by have := of_decide_eq_false h1; omega
    subst hie
    rw [midK_all] at hTi
    repeat (first | refine jC ?_ | refine jN ?_ | refine jS ?_ | refine jR ?_ | refine jT ?_ | refine jB ?_ | refine jX rfl ?_ | refine jY rfl ?_ | refine jK ?_ | refine jD ?_ | refine jE ?_)
    exact EndV.mk fun w' hw' => ⟨_, rfl, (hTi.ext (hi' := w'.heap.size) hw' (by have := hw'.size; omega)).fin (Nat.le_refl _) (Nat.le_refl _) (by rw [List.length_map]), hXi.trans (ExcP.of_ext hw')⟩
/-- The new numbers of the first k nodes. -/
def numL (j n k : Nat) : List Int := (List.range n).map fun i => if i < k then decI j (i : Int) else 0
@[simp] theorem numL_length (j n k : Nat) : (numL j n k).length = n := by simp [numL]
theorem numL_zero (j n : Nat) : numL j n 0 = List.replicate n 0 := by
  refine List.ext_getElem? fun i => ?_
  simp only [numL, List.getElem?_map, List.getElem?_replicate]
  by_cases h : i < n
  · rw [List.getElem?_range h, if_pos h]; simp
  · rw [List.getElem?_eq_none (by simpa using h), if_neg h]; rfl
theorem numL_succ (j n k : Nat) : (numL j n k).set k (decI j (k : Int)) = numL j n (k + 1) := by
  refine List.ext_getElem? fun i => ?_
  rw [List.getElem?_set, numL_length]
  simp only [numL, List.getElem?_map]
  by_cases h : i < n
  · rw [List.getElem?_range h]
    by_cases e : k = i
    · subst e; rw [if_pos rfl, if_pos h]; simp
    · rw [if_neg e]
      simp only [Option.map_some]
      by_cases h1 : i < k
      · rw [if_pos h1, if_pos (by omega)]
      · rw [if_neg h1, if_neg (by omega)]
  · rw [List.getElem?_eq_none (by simpa using h)]
    by_cases e : k = i
    · subst e; rw [if_pos rfl, if_neg h]; rfl
    · rw [if_neg e]; rfl
theorem numL_at {j n q : Nat} (h : q < n) : (numL j n n)[q]? = some (decI j (q : Int)) := by
  simp only [numL, List.getElem?_map, List.getElem?_range h, Option.map_some, if_pos h]
theorem erased_len {α : Type} {l : List α} {j k : Nat} (hk : k ≤ l.length) : ((((l.take k).eraseIdx j).length : Nat) : Int) = decI j (k : Int) := by
  rw [List.length_eraseIdx, List.length_take, Nat.min_eq_left hk, decI]
  split <;> split <;> omega
theorem sk_num {j k : Nat} (hk : k ≠ j) {m : Nat} (hm : (m : Int) = decI j (k : Int)) : sk j m = k := by
  unfold decI at hm
  unfold sk
  split at hm <;> split <;> omega
theorem sClean_vc {lo0 cap g j : Nat} {ts : List Nd} {w : World} {ad : Option Addr} {bl : Nat → Bool → Nat} {pv : Nat → Bool → Value} (hTB : TB lo0 w.heap.size w ad cap g ts bl pv) (hlo : lo0 ≤ w.heap.size) (hs : Sized ts) (h16 : ts.length ≤ 16) (h1 : 1 ≤ ts.length) (hj1 : 1 ≤ j) (hjl : j ≤ ts.length)
    (hlk : (linksOf ts).length = ts.length) (hl : ∀ i : Nat, 1 ≤ i → i < ts.length → (0 < (linksOf ts).getD i 0 ↔ i ≠ j)) (hin : ∀ (i : Nat) (m : Nd), ts[i]? = some m → ∀ q ∈ m.kids, 0 ≤ q ∧ q ≤ (ts.length : Int) - 1) :
    Calls Tryz.prog 33 #[.slice ad ts.length cap] w fun e w' => ∃ v, e = .returned v ∧ TreeB lo0 w'.heap.size w' v ((ts.eraseIdx j).map (Nd.mapK (decI j))) ∧ ExcP (fun i => lo0 ≤ i) w w' := by
  obtain ⟨rfl, hg1, hg2, hm3, hcs3⟩ := hTB.open_ (k := 0) (by omega)
  refine calls_of cx_ok Tryz.func33 Tryz.ntmps33 Tryz.results33 rfl rfl ?_
  repeat (first | refine jC ?_ | refine jN ?_ | refine jS ?_ | refine jR ?_ | refine jT ?_ | refine jB ?_ | refine jX rfl ?_ | refine jY rfl ?_ | refine jK ?_ | refine jD ?_ | refine jE ?_)
  refine CallV.mem _ (fun w' hw _ => sLinksOf_vc ts _ w' ((hTB.fin (Nat.le_refl _) (Nat.le_refl _) rfl).tree.ext hw) hs) (fun xl wa wb hxa hxb _ ⟨adl, nl, capl, el, hBl⟩ => ?_)
  subst el
  have hnl : nl = ts.length := by have := hBl.len; simp at this; omega
  subst hnl
  obtain ⟨gl, el, hgl1, hgl2, hgl⟩ : ∃ gl, adl = some ⟨gl, 0, none⟩ ∧ wa.heap.size ≤ gl ∧ gl < wb.heap.size ∧ CellsAt wb gl 0 (ints (linksOf ts)) := by
    cases adl with
    | none => have := hBl.nil rfl; have := hBl.le; omega
    | some q => obtain ⟨gl, e, h3, h4, _, h5⟩ := hBl.at_ q rfl; exact ⟨gl, by rw [e], h3, h4, h5⟩
  subst el
  repeat (first | refine jC ?_ | refine jN ?_ | refine jS ?_ | refine jR ?_ | refine jT ?_ | refine jB ?_ | refine jX rfl ?_ | refine jY rfl ?_ | refine jK ?_ | refine jD ?_ | refine jE ?_)
  refine ⟨ts.length, rfl, rfl, by omega, by omega, ?_⟩
  refine Made.mk fun gn w1 hx1 hgn1 hgn2 hgn3 _ => ?_
  have hN0 := zero_cells hgn3
  have hM0 : MutN w1 gn 0 ts.length := MutN.of_block hgn3 (by simp [madeCells])
  repeat (first | refine jC ?_ | refine jN ?_ | refine jS ?_ | refine jR ?_ | refine jT ?_ | refine jB ?_ | refine jX rfl ?_ | refine jY rfl ?_ | refine jK ?_ | refine jD ?_ | refine jE ?_)
  refine Made.mk fun go w2 hx2 hgo1 hgo2 hgo3 _ => ?_
  repeat (first | refine jC ?_ | refine jN ?_ | refine jS ?_ | refine jR ?_ | refine jT ?_ | refine jB ?_ | refine jX rfl ?_ | refine jY rfl ?_ | refine jK ?_ | refine jD ?_ | refine jE ?_)
  have hxw2 := ((hxa.trans hxb).trans hx1).trans hx2
  have za := hxa.size
  have zb := hxb.size
  have z1 := hx1.size
  have z2 := hx2.size
  refine WpC.loop (α := Nat × Value × Nat × World) (fun y => ⟨[(0, .v (.slice (some ⟨g, 0, none⟩) ts.length cap)), (3, .v (.slice (some ⟨gl, 0, none⟩) ts.length capl)), (4, .v (.slice (some ⟨gn, 0, none⟩) ts.length ts.length)), (5, .v y.2.1), (6, .v (.int .i64 (y.1 : Int)))], [], y.2.2.2⟩)
    (fun y => y.1 ≤ ts.length ∧ Vc.Ext w y.2.2.2 ∧ w2.heap.size ≤ y.2.2.2.heap.size ∧ CellsAt y.2.2.2 gl 0 (ints (linksOf ts)) ∧ CellsAt y.2.2.2 gn 0 (ints (numL j ts.length y.1)) ∧ MutN y.2.2.2 gn 0 ts.length ∧
      BufS w2.heap.size y.2.2.2.heap.size y.2.2.2 y.2.1 ((ts.take y.1).eraseIdx j).length 7 (flat ((ts.take y.1).eraseIdx j) (fun i b => pv (sk j i) b) 0) y.2.2.1) (fun y => ts.length - y.1) (0, .slice (some ⟨go, 0, none⟩) 0 0, 0, w2)
    ⟨Nat.zero_le _, hxw2, Nat.le_refl _, hgl.ext (hx1.trans hx2), by dsimp only; rw [numL_zero]; exact hN0.ext hx2, hM0.ext hx2, by simpa [flat] using BufS.zero _ _ _ _ _ _ _⟩ ⟨⟨rfl, rfl, rfl, rfl, rfl, trivial⟩, trivial, trivial, Vc.Ext.refl _⟩ ?_
  rintro ⟨k, vo, go2, wk⟩ ⟨hk, hxk, hzk, hcl, hcn, hmn, hB⟩
  dsimp only at hk hxk hzk hcl hcn hmn hB ⊢
  obtain ⟨ado, capo, rfl, _⟩ := id hB
  repeat (first | refine jC ?_ | refine jN ?_ | refine jS ?_ | refine jR ?_ | refine jT ?_ | refine jB ?_ | refine jX rfl ?_ | refine jY rfl ?_ | refine jK ?_ | refine jD ?_ | refine jE ?_)
  refine Br.intro (fun h => ?_) (fun h => ?_)
  · have hlt : k < ts.length := by have := of_decide_eq_true h; omega
    have hu : ts[k]? = some ts[k] := List.getElem?_eq_getElem hlt
    repeat (first | refine jC ?_ | refine jN ?_ | refine jS ?_ | refine jR ?_ | refine jT ?_ | refine jB ?_ | refine jX rfl ?_ | refine jY rfl ?_ | refine jK ?_ | refine jD ?_ | refine jE ?_)
    refine Ix.mk k rfl hlt ?_
    repeat (first | refine jC ?_ | refine jN ?_ | refine jS ?_ | refine jR ?_ | refine jT ?_ | refine jB ?_ | refine jX rfl ?_ | refine jY rfl ?_ | refine jK ?_ | refine jD ?_ | refine jE ?_)
    have hm1 : MutN wk gn (0 + k) 1 := hmn.sub (k := k) (m := 1) (by omega)
    refine ⟨hm1, trivial, rfl, by simp [Value.oneCell'], ?_⟩
    repeat (first | refine jC ?_ | refine jN ?_)
    refine WpC.now (fun wx hxx _ => ?_)
    have hXs : ExcP (fun i => i = gn) wk wx := ((ExcP.refl (fun i => i = gn) wk).setL (S := fun i => i = gn) rfl _ _).trans (ExcP.of_ext hxx)
    have hcn2 : CellsAt wx gn 0 (ints (numL j ts.length (k + 1))) := by
      have := (hcn.setAt (x := .int .i64 (decI j (k : Int))) hm1 (by simp; omega))
      rw [erased_len hk] at hxx
      rw [← numL_succ, show ints ((numL j ts.length k).set k (decI j (k : Int))) = (ints (numL j ts.length k)).set k (.int .i64 (decI j (k : Int))) from by simp [List.map_set]]
      exact this.ext hxx
    have hmn2 : MutN wx gn 0 ts.length := (MutN.setL _ _ _ hmn).ext hxx
    have hcl2 : CellsAt wx gl 0 (ints (linksOf ts)) := hcl.exc (by omega) hXs (by show ¬ gl = gn; omega)
    have hxk2 : Vc.Ext w wx := hxk.trans' (hXs.below hxk.size fun i hi e => by omega)
    have hzx := hXs.size
    have hB2 := hB.exc (hi' := wx.heap.size) hXs (fun hc e => by have := (hB.blk hc).1; omega) (Nat.le_refl _) hzx
    clear hcn hmn hcl hB hxx hm1
    have em : k ≠ j → (ts.take (k + 1)).eraseIdx j = (ts.take k).eraseIdx j ++ [ts[k]] := fun h => erase_more hlt h
    have em2 : (ts.take (k + 1)).eraseIdx k = (ts.take k).eraseIdx k := erase_skip hlt
    have hek : ((ts.take k).eraseIdx j).length ≤ 16 := by have h := List.length_eraseIdx_le (ts.take k) j; rw [List.length_take] at h; omega
    generalize ts[k] = m at hu em
    have hcm : CellsAt wx g (0 + k * 7) (m.cells (pv k true) (pv k false)) := by rw [Nat.zero_add]; exact (hcs3 k m hu).ext hxk2
    repeat (first | refine jC ?_ | refine jN ?_ | refine jS ?_ | refine jR ?_ | refine jT ?_ | refine jB ?_ | refine jX rfl ?_ | refine jY rfl ?_ | refine jK ?_ | refine jD ?_ | refine jE ?_)
    by_cases hk0 : k = 0
    · have hkj : k ≠ j := by omega
      refine Br.yes (by simp [hk0]) ?_
      repeat (first | refine jC ?_ | refine jN ?_ | refine jS ?_ | refine jR ?_ | refine jT ?_ | refine jB ?_ | refine jX rfl ?_ | refine jY rfl ?_ | refine jK ?_ | refine jD ?_ | refine jE ?_)
      refine Ix.mk k rfl hlt ?_
      repeat (first | refine jC ?_ | refine jN ?_ | refine jS ?_ | refine jR ?_ | refine jT ?_ | refine jB ?_ | refine jX rfl ?_ | refine jY rfl ?_ | refine jK ?_ | refine jD ?_ | refine jE ?_)
      refine LdN.mk hcm rfl ?_
      repeat (first | refine jC ?_ | refine jN ?_ | refine jS ?_ | refine jR ?_ | refine jT ?_ | refine jB ?_ | refine jX rfl ?_ | refine jY rfl ?_ | refine jK ?_ | refine jD ?_ | refine jE ?_)
      refine Made.mk fun gy wy hxy hy1 hy2 hy3 _ => ?_
      repeat (first | refine jC ?_ | refine jN ?_ | refine jS ?_ | refine jR ?_ | refine jT ?_ | refine jB ?_ | refine jX rfl ?_ | refine jY rfl ?_ | refine jK ?_ | refine jD ?_ | refine jE ?_)
      have hzy := hxy.size
      refine AppV.bufS (hB2.ext hxy hzy) (by omega) (news := m.cells (pv k true) (pv k false)) (CellsAt.of_block hy3 (fun i v hi => by simpa using hi)) rfl (m.cells_one (hTB.pc k m true hu).one (hTB.pc k m false hu).one) (fun _ => trivial) (by omega) (by omega) rfl (by omega) (Nat.le_refl _) (fun v' A' g' hB' hc' hw => ?_)
      repeat (first | refine jC ?_ | refine jN ?_ | refine jS ?_ | refine jR ?_ | refine jT ?_ | refine jB ?_ | refine jX rfl ?_ | refine jY rfl ?_ | refine jK ?_ | refine jD ?_ | refine jE ?_)
      refine ⟨I64.mk (by omega), ?_⟩
      repeat (first | refine jC ?_ | refine jN ?_ | refine jS ?_ | refine jR ?_ | refine jT ?_ | refine jB ?_ | refine jX rfl ?_ | refine jY rfl ?_ | refine jK ?_ | refine jD ?_ | refine jE ?_)
      have hXy := grow_exc hw
      have hzA := hXy.size
      have hgo : 0 < capo → w2.heap.size ≤ go2 := fun hc => (hB2.blk (v := .slice ado _ capo) hc).1
      have e3 : flat ((ts.take k).eraseIdx j) (fun i b => pv (sk j i) b) 0 ++ m.cells (pv k true) (pv k false) = flat ((ts.take (k + 1)).eraseIdx j) (fun i b => pv (sk j i) b) 0 := by
        rw [em hkj, flat_snoc]
        simp only [Nat.zero_add, sk_num hkj (erased_len (j := j) hk)]
      have e4 : ((ts.take k).eraseIdx j).length + 1 = ((ts.take (k + 1)).eraseIdx j).length := by rw [em hkj, List.length_append]; rfl
      rw [e3, e4] at hB'
      exact ⟨(k + 1, v', g', A'), ⟨hlt, (hxk2.trans hxy).trans' (hXy.below (hxk2.trans hxy).size fun i hi e => by have e1 := hgo e.1; have e2 : i = go2 := e.2; omega), (by show w2.heap.size ≤ A'.heap.size; omega), (hcl2.ext hxy).exc (by omega) hXy (fun e => by have e1 := hgo e.1; have e2 : gl = go2 := e.2; omega), (hcn2.ext hxy).exc (by omega) hXy (fun e => by have e1 := hgo e.1; have e2 : gn = go2 := e.2; omega), (hmn2.ext hxy).exc (by omega) hXy (fun e => by have e1 := hgo e.1; have e2 : gn = go2 := e.2; omega), hB'⟩, by show ts.length - (k + 1) < ts.length - k; omega, ⟨rfl, rfl, rfl, rfl, rfl, trivial⟩, trivial, trivial, Vc.Ext.refl _⟩
    · refine Br.no (by simp; omega) ?_
      repeat (first | refine jC ?_ | refine jN ?_ | refine jS ?_ | refine jR ?_ | refine jT ?_ | refine jB ?_ | refine jX rfl ?_ | refine jY rfl ?_ | refine jK ?_ | refine jD ?_ | refine jE ?_)
      refine Ix.mk k rfl hlt ?_
      repeat (first | refine jC ?_ | refine jN ?_ | refine jS ?_ | refine jR ?_ | refine jT ?_ | refine jB ?_ | refine jX rfl ?_ | refine jY rfl ?_ | refine jK ?_ | refine jD ?_ | refine jE ?_)
      refine Ld.mk (hcl2.out k _ (ints_get (by rw [hlk]; exact hlt))) ?_
      repeat (first | refine jC ?_ | refine jN ?_ | refine jS ?_ | refine jR ?_ | refine jT ?_ | refine jB ?_ | refine jX rfl ?_ | refine jY rfl ?_ | refine jK ?_ | refine jD ?_ | refine jE ?_)
      have hlj := hl k (by omega) hlt
      refine Br.intro (fun h2 => ?_) (fun h2 => ?_)
      · have hkj : k ≠ j := hlj.1 (of_decide_eq_true h2)
        repeat (first | refine jC ?_ | refine jN ?_ | refine jS ?_ | refine jR ?_ | refine jT ?_ | refine jB ?_ | refine jX rfl ?_ | refine jY rfl ?_ | refine jK ?_ | refine jD ?_ | refine jE ?_)
        refine Ix.mk k rfl hlt ?_
        repeat (first | refine jC ?_ | refine jN ?_ | refine jS ?_ | refine jR ?_ | refine jT ?_ | refine jB ?_ | refine jX rfl ?_ | refine jY rfl ?_ | refine jK ?_ | refine jD ?_ | refine jE ?_)
        refine LdN.mk hcm rfl ?_
        repeat (first | refine jC ?_ | refine jN ?_ | refine jS ?_ | refine jR ?_ | refine jT ?_ | refine jB ?_ | refine jX rfl ?_ | refine jY rfl ?_ | refine jK ?_ | refine jD ?_ | refine jE ?_)
        refine Made.mk fun gy wy hxy hy1 hy2 hy3 _ => ?_
        repeat (first | refine jC ?_ | refine jN ?_ | refine jS ?_ | refine jR ?_ | refine jT ?_ | refine jB ?_ | refine jX rfl ?_ | refine jY rfl ?_ | refine jK ?_ | refine jD ?_ | refine jE ?_)
        have hzy := hxy.size
        refine AppV.bufS (hB2.ext hxy hzy) (by omega) (news := m.cells (pv k true) (pv k false)) (CellsAt.of_block hy3 (fun i v hi => by simpa using hi)) rfl (m.cells_one (hTB.pc k m true hu).one (hTB.pc k m false hu).one) (fun _ => trivial) (by omega) (by omega) rfl (by omega) (Nat.le_refl _) (fun v' A' g' hB' hc' hw => ?_)
        repeat (first | refine jC ?_ | refine jN ?_ | refine jS ?_ | refine jR ?_ | refine jT ?_ | refine jB ?_ | refine jX rfl ?_ | refine jY rfl ?_ | refine jK ?_ | refine jD ?_ | refine jE ?_)
        refine ⟨I64.mk (by omega), ?_⟩
        repeat (first | refine jC ?_ | refine jN ?_ | refine jS ?_ | refine jR ?_ | refine jT ?_ | refine jB ?_ | refine jX rfl ?_ | refine jY rfl ?_ | refine jK ?_ | refine jD ?_ | refine jE ?_)
        have hXy := grow_exc hw
        have hzA := hXy.size
        have hgo : 0 < capo → w2.heap.size ≤ go2 := fun hc => (hB2.blk (v := .slice ado _ capo) hc).1
        have e3 : flat ((ts.take k).eraseIdx j) (fun i b => pv (sk j i) b) 0 ++ m.cells (pv k true) (pv k false) = flat ((ts.take (k + 1)).eraseIdx j) (fun i b => pv (sk j i) b) 0 := by
          rw [em hkj, flat_snoc]
          simp only [Nat.zero_add, sk_num hkj (erased_len (j := j) hk)]
        have e4 : ((ts.take k).eraseIdx j).length + 1 = ((ts.take (k + 1)).eraseIdx j).length := by rw [em hkj, List.length_append]; rfl
        rw [e3, e4] at hB'
        exact ⟨(k + 1, v', g', A'), ⟨hlt, (hxk2.trans hxy).trans' (hXy.below (hxk2.trans hxy).size fun i hi e => by have e1 := hgo e.1; have e2 : i = go2 := e.2; omega), (by show w2.heap.size ≤ A'.heap.size; omega), (hcl2.ext hxy).exc (by omega) hXy (fun e => by have e1 := hgo e.1; have e2 : gl = go2 := e.2; omega), (hcn2.ext hxy).exc (by omega) hXy (fun e => by have e1 := hgo e.1; have e2 : gn = go2 := e.2; omega), (hmn2.ext hxy).exc (by omega) hXy (fun e => by have e1 := hgo e.1; have e2 : gn = go2 := e.2; omega), hB'⟩, by show ts.length - (k + 1) < ts.length - k; omega, ⟨rfl, rfl, rfl, rfl, rfl, trivial⟩, trivial, trivial, Vc.Ext.refl _⟩
      · have hkj : k = j := by
          have h2 := of_decide_eq_false h2
          by_cases e : k = j
          · exact e
          · exact absurd (hlj.2 e) h2
        subst hkj
        repeat (first | refine jC ?_ | refine jN ?_ | refine jS ?_ | refine jR ?_ | refine jT ?_ | refine jB ?_ | refine jX rfl ?_ | refine jY rfl ?_ | refine jK ?_ | refine jD ?_ | refine jE ?_)
        refine ⟨I64.mk (by omega), ?_⟩
        repeat (first | refine jC ?_ | refine jN ?_ | refine jS ?_ | refine jR ?_ | refine jT ?_ | refine jB ?_ | refine jX rfl ?_ | refine jY rfl ?_ | refine jK ?_ | refine jD ?_ | refine jE ?_)
        exact ⟨(k + 1, _, go2, wx), ⟨hlt, hxk2, (by show w2.heap.size ≤ wx.heap.size; omega), hcl2, hcn2, hmn2, by dsimp only; rw [em2]; exact hB2⟩, by show ts.length - (k + 1) < ts.length - k; omega, ⟨rfl, rfl, rfl, rfl, rfl, trivial⟩, trivial, trivial, Vc.Ext.refl _⟩
  · have hke : k = ts.length := by have := of_decide_eq_false h; omega
    subst hke
    simp only [List.take_length] at hB ⊢
    clear hl
    have hul : 1 ≤ (ts.eraseIdx j).length := by
      rw [List.length_eraseIdx]; split <;> omega
    have hul2 : (ts.eraseIdx j).length ≤ 16 := by have := List.length_eraseIdx_le ts j; omega
    have hgo : w2.heap.size ≤ go2 ∧ go2 < wk.heap.size := hB.blk (by obtain ⟨_, c, e, h, _⟩ := id hB; rw [e]; show 0 < c; omega)
    have hbw := fun i b hi hc => (hTB.blk (i := i) (b := b) hi hc).2
    have hT2 := hTB.erase (S := fun _ => False) (hi' := wk.heap.size) (g' := go2) j (ExcP.of_ext hxk) (Nat.le_refl _) (by have := hxk.size; omega) (fun _ _ _ _ h => h) (fun i b hi hc => by have := hbw i b hi hc; omega) (hB.low (by omega))
    have hb2 : ∀ i b, i < (ts.eraseIdx j).length → 0 < capV (pv (sk j i) b) → bl (sk j i) b < w.heap.size := fun i b hi hc => hbw _ b (erase_lt hi) hc
    have hin2 : ∀ (i : Nat) (m : Nd), (ts.eraseIdx j)[i]? = some m → ∀ q ∈ m.kids, 0 ≤ q ∧ q ≤ (ts.length : Int) - 1 := fun i m hi => hin _ m (erase_at hi)
    generalize hble : (fun i b => bl (sk j i) b) = ble at hT2
    generalize hpve : (fun i b => pv (sk j i) b) = pve at hT2
    replace hb2 : ∀ i b, i < (ts.eraseIdx j).length → 0 < capV (pve i b) → ble i b < w.heap.size := by rw [← hble, ← hpve]; exact hb2
    have hnl : (numL j ts.length ts.length).length = ts.length := numL_length _ _ _
    have hXk : ExcP (fun i => lo0 ≤ i) w wk := ExcP.of_ext hxk
    clear hB hble hpve
    generalize ts.eraseIdx j = us at hT2 hul hul2 hb2 hin2 ⊢
    repeat (first | refine jC ?_ | refine jN ?_ | refine jS ?_ | refine jR ?_ | refine jT ?_ | refine jB ?_ | refine jX rfl ?_ | refine jY rfl ?_ | refine jK ?_ | refine jD ?_ | refine jE ?_)
    refine WpC.loop (α := Nat × World) (fun y => ⟨[(4, .v (.slice (some ⟨gn, 0, none⟩) ts.length ts.length)), (5, .v (.slice ado us.length capo)), (7, .v (.int .i64 (y.1 : Int)))], [], y.2⟩)
      (fun y => y.1 ≤ us.length ∧ wk.heap.size ≤ y.2.heap.size ∧ ExcP (fun i => lo0 ≤ i) w y.2 ∧ CellsAt y.2 gn 0 (ints (numL j ts.length ts.length)) ∧ TB lo0 wk.heap.size y.2 ado capo go2 (midK (decI j) us y.1) ble pve) (fun y => us.length - y.1) (0, wk)
      ⟨Nat.zero_le _, Nat.le_refl _, hXk, hcn, by dsimp only; rw [midK_zero]; exact hT2⟩ ⟨⟨rfl, rfl, rfl, trivial⟩, trivial, trivial, Vc.Ext.refl _⟩ ?_
    rintro ⟨i, wi⟩ ⟨hi, hzi, hXi, hci, hTi⟩
    dsimp only at hi hzi hXi hci hTi ⊢
    repeat (first | refine jC ?_ | refine jN ?_ | refine jS ?_ | refine jR ?_ | refine jT ?_ | refine jB ?_ | refine jX rfl ?_ | refine jY rfl ?_ | refine jK ?_ | refine jD ?_ | refine jE ?_)
    refine Br.intro (fun h2 => ?_) (fun h2 => ?_)
    · have hlt : i < us.length := by have := of_decide_eq_true h2; omega
      have hu : us[i]? = some us[i] := List.getElem?_eq_getElem hlt
      generalize us[i] = m at hu
      have hmi := (midK_at (φ := decI j) us i).trans hu
      have hlm : i < (midK (decI j) us i).length := by rw [midK_length]; exact hlt
      obtain ⟨adk, capk, evk, hkl1, hkl2, _⟩ := hTi.pc i m false hmi
      simp only [contN] at evk hkl1
      repeat (first | refine jC ?_ | refine jN ?_ | refine jS ?_ | refine jR ?_ | refine jT ?_ | refine jB ?_ | refine jX rfl ?_ | refine jY rfl ?_ | refine jK ?_ | refine jD ?_ | refine jE ?_)
      refine WpC.loop (α := Nat × World) (fun y => ⟨[(4, .v (.slice (some ⟨gn, 0, none⟩) ts.length ts.length)), (5, .v (.slice ado us.length capo)), (7, .v (.int .i64 (i : Int))), (8, .v (.int .i64 (y.1 : Int)))], [], y.2⟩)
        (fun y => y.1 ≤ m.kids.length ∧ wk.heap.size ≤ y.2.heap.size ∧ ExcP (fun i => lo0 ≤ i) w y.2 ∧ CellsAt y.2 gn 0 (ints (numL j ts.length ts.length)) ∧ TB lo0 wk.heap.size y.2 ado capo go2 ((midK (decI j) us i).set i (m.midN (decI j) y.1)) ble pve) (fun y => m.kids.length - y.1) (0, wi)
        ⟨Nat.zero_le _, hzi, hXi, hci, by dsimp only; rw [midN_zero, set_self hmi]; exact hTi⟩ ⟨⟨rfl, rfl, rfl, rfl, trivial⟩, trivial, trivial, Vc.Ext.refl _⟩ ?_
      rintro ⟨jj, wj⟩ ⟨hjj, hzj, hXj, hcj, hTj⟩
      dsimp only at hjj hzj hXj hcj hTj ⊢
      have hls : i < ((midK (decI j) us i).set i (m.midN (decI j) jj)).length := by rw [List.length_set]; exact hlm
      have hmj : ((midK (decI j) us i).set i (m.midN (decI j) jj))[i]? = some (m.midN (decI j) jj) := by rw [List.getElem?_set_self hlm]
      obtain ⟨eado, _, _, _, hcsj⟩ := hTj.open_ hls
      subst eado
      have hck6 : CellsAt wj go2 (0 + i * 7) ((m.midN (decI j) jj).cells (pve i true) (pve i false)) := by rw [Nat.zero_add]; exact hcsj i _ hmj
      rw [evk] at hck6
      repeat (first | refine jC ?_ | refine jN ?_ | refine jS ?_ | refine jR ?_ | refine jT ?_ | refine jB ?_ | refine jX rfl ?_ | refine jY rfl ?_ | refine jK ?_ | refine jD ?_ | refine jE ?_)
      refine Ix.mk i rfl hlt ?_
      repeat (first | refine jC ?_ | refine jN ?_ | refine jS ?_ | refine jR ?_ | refine jT ?_ | refine jB ?_ | refine jX rfl ?_ | refine jY rfl ?_ | refine jK ?_ | refine jD ?_ | refine jE ?_)
      refine Ld.mk (hck6.out 6 _ rfl) ?_
      repeat (first | refine jC ?_ | refine jN ?_ | refine jS ?_ | refine jR ?_ | refine jT ?_ | refine jB ?_ | refine jX rfl ?_ | refine jY rfl ?_ | refine jK ?_ | refine jD ?_ | refine jE ?_)
      refine Br.intro (fun h3 => ?_) (fun h3 => ?_)
      · have hlt2 : jj < m.kids.length := by have := of_decide_eq_true h3; omega
        have hq : m.kids[jj]? = some m.kids[jj] := List.getElem?_eq_getElem hlt2
        generalize m.kids[jj] = q at hq
        have hqr := hin2 i m hu q (List.mem_of_getElem? hq)
        obtain ⟨qn, rfl⟩ := Int.eq_ofNat_of_zero_le hqr.1
        have hkl : jj < (m.midN (decI j) jj).kids.length := by show jj < (kidsMid (decI j) m.kids jj).length; rw [kidsMid_length]; exact hlt2
        obtain ⟨⟨kc2, evk2⟩, hm1, hbr, hck2, hT3⟩ := hTj.kidAt hzj hmj hkl (decI j (qn : Int))
        have el : (m.midN (decI j) jj).kids.length = m.kids.length := kidsMid_length _ _
        rw [evk, el] at evk2
        simp only [Value.slice.injEq] at evk2
        obtain ⟨rfl, _, rfl⟩ := evk2
        have hbw2 := hb2 i false hlt (by rw [evk]; show 0 < capk; omega)
        have hqc := hck2.out jj (.int .i64 (qn : Int)) (by rw [List.getElem?_map]; show ((kidsMid (decI j) m.kids jj)[jj]?).map _ = _; rw [kidsMid_at, hq]; rfl)
        have hql : qn < ts.length := by omega
        have hnq := hcj.out qn (.int .i64 (decI j (qn : Int))) (by rw [List.getElem?_map, numL_at hql]; rfl)
        repeat (first | refine jC ?_ | refine jN ?_ | refine jS ?_ | refine jR ?_ | refine jT ?_ | refine jB ?_ | refine jX rfl ?_ | refine jY rfl ?_ | refine jK ?_ | refine jD ?_ | refine jE ?_)
        refine WpC.drawE (.st 0 (.st 1 (.st 2 (.st 3 (.st 4 (.st 5 (.st 6 (.st 7 (.st 8 (.st 9 (.st 10 (.st 11 (.st 12 (.st 13 (.st 14 (.st 15 (.st 16 (.st 17 (.ef 18 .done .done))))))))))))))))))) [(0, .mv), (1, .mv), (5, .mv), (6, .mv), (7, .mv), (8, .mv), (12, .mv), (18, .br)] (by kernel_rfl) ?_
        repeat (first | refine uM ?_ | refine uR ?_ | refine uE ?_ | refine uB ?_ | refine uA ?_ | refine uD ?_ | refine jC ?_ | refine jN ?_ | refine jS ?_ | refine jR ?_ | refine jT ?_ | refine jB ?_ | refine jX rfl ?_ | refine jY rfl ?_ | refine jK ?_ | refine jD ?_ | refine jE ?_)
        refine Ix.mk i rfl hlt ?_
        repeat (first | refine uM ?_ | refine uR ?_ | refine uE ?_ | refine uB ?_ | refine uA ?_ | refine uD ?_ | refine jC ?_ | refine jN ?_ | refine jS ?_ | refine jR ?_ | refine jT ?_ | refine jB ?_ | refine jX rfl ?_ | refine jY rfl ?_ | refine jK ?_ | refine jD ?_ | refine jE ?_)
        refine Ld.mk (hck6.out 6 _ rfl) ?_
        repeat (first | refine uM ?_ | refine uR ?_ | refine uE ?_ | refine uB ?_ | refine uA ?_ | refine uD ?_ | refine jC ?_ | refine jN ?_ | refine jS ?_ | refine jR ?_ | refine jT ?_ | refine jB ?_ | refine jX rfl ?_ | refine jY rfl ?_ | refine jK ?_ | refine jD ?_ | refine jE ?_)
        refine Ix.mk i rfl hlt ?_
        repeat (first | refine uM ?_ | refine uR ?_ | refine uE ?_ | refine uB ?_ | refine uA ?_ | refine uD ?_ | refine jC ?_ | refine jN ?_ | refine jS ?_ | refine jR ?_ | refine jT ?_ | refine jB ?_ | refine jX rfl ?_ | refine jY rfl ?_ | refine jK ?_ | refine jD ?_ | refine jE ?_)
        refine Ld.mk (hck6.out 6 _ rfl) ?_
        repeat (first | refine uM ?_ | refine uR ?_ | refine uE ?_ | refine uB ?_ | refine uA ?_ | refine uD ?_ | refine jC ?_ | refine jN ?_ | refine jS ?_ | refine jR ?_ | refine jT ?_ | refine jB ?_ | refine jX rfl ?_ | refine jY rfl ?_ | refine jK ?_ | refine jD ?_ | refine jE ?_)
        refine Ix.mk jj rfl hlt2 ?_
        repeat (first | refine uM ?_ | refine uR ?_ | refine uE ?_ | refine uB ?_ | refine uA ?_ | refine uD ?_ | refine jC ?_ | refine jN ?_ | refine jS ?_ | refine jR ?_ | refine jT ?_ | refine jB ?_ | refine jX rfl ?_ | refine jY rfl ?_ | refine jK ?_ | refine jD ?_ | refine jE ?_)
        refine Ld.mk hqc ?_
        repeat (first | refine uM ?_ | refine uR ?_ | refine uE ?_ | refine uB ?_ | refine uA ?_ | refine uD ?_ | refine jC ?_ | refine jN ?_ | refine jS ?_ | refine jR ?_ | refine jT ?_ | refine jB ?_ | refine jX rfl ?_ | refine jY rfl ?_ | refine jK ?_ | refine jD ?_ | refine jE ?_)
        refine Ix.mk qn rfl hql ?_
        repeat (first | refine uM ?_ | refine uR ?_ | refine uE ?_ | refine uB ?_ | refine uA ?_ | refine uD ?_ | refine jC ?_ | refine jN ?_ | refine jS ?_ | refine jR ?_ | refine jT ?_ | refine jB ?_ | refine jX rfl ?_ | refine jY rfl ?_ | refine jK ?_ | refine jD ?_ | refine jE ?_)
        refine Ld.mk hnq ?_
        repeat (first | refine uM ?_ | refine uR ?_ | refine uE ?_ | refine uB ?_ | refine uA ?_ | refine uD ?_ | refine jC ?_ | refine jN ?_ | refine jS ?_ | refine jR ?_ | refine jT ?_ | refine jB ?_ | refine jX rfl ?_ | refine jY rfl ?_ | refine jK ?_ | refine jD ?_ | refine jE ?_)
        refine Ix.mk jj rfl hlt2 ?_
        repeat (first | refine uM ?_ | refine uR ?_ | refine uE ?_ | refine uB ?_ | refine uA ?_ | refine uD ?_ | refine jC ?_ | refine jN ?_ | refine jS ?_ | refine jR ?_ | refine jT ?_ | refine jB ?_ | refine jX rfl ?_ | refine jY rfl ?_ | refine jK ?_ | refine jD ?_ | refine jE ?_)
        refine ⟨hm1, trivial, rfl, by simp [Value.oneCell'], ?_⟩
        repeat (first | refine uM ?_ | refine uR ?_ | refine uE ?_ | refine uB ?_ | refine uA ?_ | refine uD ?_ | refine jC ?_ | refine jN ?_ | refine jS ?_ | refine jR ?_ | refine jT ?_ | refine jB ?_ | refine jX rfl ?_ | refine jY rfl ?_ | refine jK ?_ | refine jD ?_ | refine jE ?_)
        refine ⟨I64.mk (by omega), ?_⟩
        repeat (first | refine jC ?_ | refine jN ?_ | refine jS ?_ | refine jR ?_ | refine jT ?_ | refine jB ?_ | refine jX rfl ?_ | refine jY rfl ?_ | refine jK ?_ | refine jD ?_ | refine jE ?_)
        have hXs : ExcP (fun x => x = ble i false) wj (setL wj (ble i false) (0 + jj) [.int .i64 (decI j (qn : Int))]) := (ExcP.refl (fun x => x = ble i false) wj).setL (S := fun x => x = ble i false) rfl _ _
        refine ⟨(jj + 1, setL wj (ble i false) (0 + jj) [.int .i64 (decI j (qn : Int))]), ⟨hlt2, by rw [setL_size]; exact hzj, hXj.setL (g := ble i false) hbr.1 _ _, hcj.exc (by omega) hXs (by show ¬ gn = _; omega), ?_⟩, by show m.kids.length - (jj + 1) < m.kids.length - jj; omega, ⟨rfl, rfl, rfl, rfl, trivial⟩, trivial, trivial, Vc.Ext.refl _⟩
        dsimp only
        rw [midN_succ hq, List.set_set] at hT3
        exact hT3
      · have hje : jj = m.kids.length := by have := of_decide_eq_false h3; omega
        subst hje
        rw [midN_all, midK_succ hu] at hTj
        repeat (first | refine jC ?_ | refine jN ?_ | refine jS ?_ | refine jR ?_ | refine jT ?_ | refine jB ?_ | refine jX rfl ?_ | refine jY rfl ?_ | refine jK ?_ | refine jD ?_ | refine jE ?_)
        refine ⟨I64.mk (by omega), ?_⟩
        repeat (first | refine jC ?_ | refine jN ?_ | refine jS ?_ | refine jR ?_ | refine jT ?_ | refine jB ?_ | refine jX rfl ?_ | refine jY rfl ?_ | refine jK ?_ | refine jD ?_ | refine jE ?_)
        exact ⟨(i + 1, wj), ⟨hlt, hzj, hXj, hcj, hTj⟩, by show us.length - (i + 1) < us.length - i; omega, ⟨rfl, rfl, rfl, trivial⟩, trivial, trivial, Vc.Ext.refl _⟩
    · have hie : i = us.length := by have := of_decide_eq_false h2; omega
      subst hie
      rw [midK_all] at hTi
      repeat (first | refine jC ?_ | refine jN ?_ | refine jS ?_ | refine jR ?_ | refine jT ?_ | refine jB ?_ | refine jX rfl ?_ | refine jY rfl ?_ | refine jK ?_ | refine jD ?_ | refine jE ?_)
      exact EndV.mk fun w' hw' => ⟨_, rfl, (hTi.ext (hi' := w'.heap.size) hw' (by have := hw'.size; omega)).fin (Nat.le_refl _) (Nat.le_refl _) (by rw [List.length_map]), hXi.trans (ExcP.of_ext hw')⟩
noncomputable def dropNF (a : Abv) (ts : List Nd) (c : Cr) : List Nd × Int := if dropF a ts c false ≠ 0 then ([], dropF a ts c false) else match ts[a.pos.toNat]? with
  | none => ([], 0)
  | some n => (dropped (ts.set a.pos.toNat (n.del (posN n.names a.nm))) (n.kid a.nm).toNat, 0)
theorem dropN_at {ts : List Nd} {c : Cr} {s : ByteArray} {k j : Nat} {n : Nd} {x : ByteArray × ByteArray} (h0 : dropF (abvF ts c s) ts c false = 0) (hav : abvF ts c s = ⟨(k : Int), x.2, 0⟩) (hn : ts[k]? = some n) (hkid : n.kid x.2 = (j : Int)) :
    dropNF (abvF ts c s) ts c = (dropped (ts.set k (n.del (posN n.names x.2))) j, 0) := by
  rw [dropNF, if_neg (by simp [h0]), hav]
  simp only [Int.toNat_natCast, hn, hkid]
theorem cnt_map (f : Nd → Nd) (hf : ∀ n, (f n).cnt = n.cnt) : ∀ ts : List Nd, cntNds (ts.map f) = cntNds ts := by
  intro ts
  induction ts with
  | nil => rfl
  | cons n r ih => rw [List.map_cons, cntNds, cntNds, ih, hf]
theorem cnt_erase (ts : List Nd) : ∀ j, cntNds (ts.eraseIdx j) ≤ cntNds ts := by
  induction ts with
  | nil => intro j; simp
  | cons n r ih =>
    intro j
    cases j with
    | zero => simp only [List.eraseIdx_zero, List.tail_cons, cntNds]; omega
    | succ j => have := ih j; simp only [List.eraseIdx_cons_succ, cntNds]; omega
theorem dropN_cnt (ts : List Nd) (c : Cr) (s : ByteArray) (hs : Sized ts) (h : cntNds ts ≤ 6291456) : cntNds (dropNF (abvF ts c s) ts c).1 ≤ 100000000 := by
  rw [dropNF]
  split
  · simp [cntNds]
  · split
    · simp [cntNds]
    · rename_i n hn
      have h1 := cntNds_setx (n' := n.del (posN n.names (abvF ts c s).nm)) hn
      have h2 := del_cnt n (posN n.names (abvF ts c s).nm)
      simp only [dropped]
      split
      · omega
      · rw [cnt_map _ (fun m => by simp [Nd.cnt, Nd.mapK])]
        have h3 := cnt_erase (ts.set (abvF ts c s).pos.toNat (n.del (posN n.names (abvF ts c s).nm))) (n.kid (abvF ts c s).nm).toNat
        omega

theorem iDropName_vc (ts : List Nd) (v : Value) (c : Cr) (s : ByteArray) (w : World) (hA : Ask w v ts s) : Turns 13 #[v, c.v, .string s] w (dropNF (abvF ts c s) ts c) := by
  have hD := fun w' (hw : Vc.Ext w w') => iMayDrop_vc ts v c s w' (hA.ext hw)
  have hFA := fun w' (hw : Vc.Ext w w') => folderAbove_vc ts v c s w' (hA.ext hw)
  unfold Turns
  refine calls_of cx_ok Tryz.func13 Tryz.ntmps13 Tryz.results13 rfl rfl ?_
  repeat (first | refine jC ?_ | refine jN ?_ | refine jS ?_ | refine jR ?_ | refine jT ?_ | refine jB ?_ | refine jX rfl ?_ | refine jY rfl ?_ | refine jK ?_ | refine jD ?_ | refine jE ?_)
  intro b hb
  repeat (first | refine jC ?_ | refine jN ?_)
  refine WpC.plain (fun w0 hx0 hO => ?_)
  have hcb : CellsAt w0 b 0 [.int .i64 c.real, .int .i64 c.acts, .int .i64 c.saved, .int .i64 c.groups] := CellsAt.of_block hO.blk0 fun i v hi => by simpa using hi
  repeat (first | refine jC ?_ | refine jN ?_ | refine jS ?_ | refine jR ?_ | refine jT ?_ | refine jB ?_ | refine jX rfl ?_ | refine jY rfl ?_ | refine jK ?_ | refine jD ?_ | refine jE ?_)
  refine LdN.mk hcb rfl ?_
  repeat (first | refine jC ?_ | refine jN ?_ | refine jS ?_ | refine jR ?_ | refine jT ?_ | refine jB ?_ | refine jX rfl ?_ | refine jY rfl ?_ | refine jK ?_ | refine jD ?_ | refine jE ?_)
  refine CallV.val (fun w' hw _ => hD w' (hx0.trans hw)) ?_
  rcases drop_cases ts c s false with h0 | ⟨k, j, n, m, x, h0, hab, hfi, hav, hn, hk, hT, hok, hkid, hmj, hj1, hnp, hkp⟩
  · rw [dropNF, if_pos h0]
    repeat (first | refine jC ?_ | refine jN ?_ | refine jS ?_ | refine jR ?_ | refine jT ?_ | refine jB ?_ | refine jX rfl ?_ | refine jY rfl ?_ | refine jK ?_ | refine jD ?_ | refine jE ?_)
    refine Br.yes (by simpa using h0) ?_
    repeat (first | refine jC ?_ | refine jN ?_ | refine jS ?_ | refine jR ?_ | refine jT ?_ | refine jB ?_ | refine jX rfl ?_ | refine jY rfl ?_ | refine jK ?_ | refine jD ?_ | refine jE ?_)
    exact EndV.tree (p := ([], dropF (abvF ts c s) ts c false)) hx0 (TreeB.nil _ _ _)
  rw [hav] at hFA
  rw [dropN_at h0 hav hn hkid, h0]
  repeat (first | refine jC ?_ | refine jN ?_ | refine jS ?_ | refine jR ?_ | refine jT ?_ | refine jB ?_ | refine jX rfl ?_ | refine jY rfl ?_ | refine jK ?_ | refine jD ?_ | refine jE ?_)
  refine LdN.mk hcb rfl ?_
  repeat (first | refine jC ?_ | refine jN ?_ | refine jS ?_ | refine jR ?_ | refine jT ?_ | refine jB ?_ | refine jX rfl ?_ | refine jY rfl ?_ | refine jK ?_ | refine jD ?_ | refine jE ?_)
  refine CallV.val (fun w' hw _ => hFA w' (hx0.trans hw)) ?_
  repeat (first | refine jC ?_ | refine jN ?_ | refine jS ?_ | refine jR ?_ | refine jT ?_ | refine jB ?_ | refine jX rfl ?_ | refine jY rfl ?_ | refine jK ?_ | refine jD ?_ | refine jE ?_)
  refine CallV.mem _ (fun w' hw _ => iCopy_vc ts _ w' (hA.tree.ext (hx0.trans hw)) hA.sized) (fun x3 wa wb hx1 hx2 hO hB => ?_)
  obtain ⟨ad', cap', g, bl, pv, rfl, hTB⟩ := hB
  have hlow : w0.heap.size ≤ wa.heap.size := hx1.size
  have hlo2 := hx2.size
  repeat (first | refine jC ?_ | refine jN ?_ | refine jS ?_ | refine jR ?_ | refine jT ?_ | refine jB ?_ | refine jX rfl ?_ | refine jY rfl ?_ | refine jK ?_ | refine jD ?_ | refine jE ?_)
  refine CallV.turn (Φ := fun v w1 w' => TreeB wa.heap.size w'.heap.size w' v (dropped (ts.set k (n.del (posN n.names x.2))) j) ∧ ExcP (fun i => wa.heap.size ≤ i) w1 w') (fun w' hw _ => iDropN_vc (hTB.ext hw hw.size) (by have := hw.size; omega) hA.sized hT x.2 hn hnp hkp) (fun v w1 w2 hw1 ⟨hB2, hX2⟩ => ?_)
  have hxe : Vc.Ext w0 w2 := ((hx1.trans hx2).trans hw1).trans' (hX2.below (by have := hw1.size; omega) fun i hi e => by omega)
  have hz0 := hx0.size
  repeat (first | refine jC ?_ | refine jN ?_ | refine jS ?_ | refine jR ?_ | refine jT ?_ | refine jB ?_ | refine jX rfl ?_ | refine jY rfl ?_ | refine jK ?_ | refine jD ?_ | refine jE ?_)
  exact EndV.tree (p := (dropped (ts.set k (n.del (posN n.names x.2))) j, 0)) (hx0.trans hxe) (hB2.low (by omega))
theorem sDropName_vc (ts : List Nd) (v : Value) (c : Cr) (s : ByteArray) (w : World) (hA : Ask w v ts s) : Turns 10 #[v, c.v, .string s] w (dropNF (abvF ts c s) ts c) := by
  have hD := fun w' (hw : Vc.Ext w w') => sMayDrop_vc ts v c s w' (hA.ext hw)
  unfold Turns
  refine calls_of cx_ok Tryz.func10 Tryz.ntmps10 Tryz.results10 rfl rfl ?_
  repeat (first | refine jC ?_ | refine jN ?_ | refine jS ?_ | refine jR ?_ | refine jT ?_ | refine jB ?_ | refine jX rfl ?_ | refine jY rfl ?_ | refine jK ?_ | refine jD ?_ | refine jE ?_)
  intro b hb
  repeat (first | refine jC ?_ | refine jN ?_)
  refine WpC.plain (fun w0 hx0 hO => ?_)
  have hcb : CellsAt w0 b 0 [.int .i64 c.real, .int .i64 c.acts, .int .i64 c.saved, .int .i64 c.groups] := CellsAt.of_block hO.blk0 fun i v hi => by simpa using hi
  repeat (first | refine jC ?_ | refine jN ?_ | refine jS ?_ | refine jR ?_ | refine jT ?_ | refine jB ?_ | refine jX rfl ?_ | refine jY rfl ?_ | refine jK ?_ | refine jD ?_ | refine jE ?_)
  refine LdN.mk hcb rfl ?_
  repeat (first | refine jC ?_ | refine jN ?_ | refine jS ?_ | refine jR ?_ | refine jT ?_ | refine jB ?_ | refine jX rfl ?_ | refine jY rfl ?_ | refine jK ?_ | refine jD ?_ | refine jE ?_)
  refine CallV.val (fun w' hw _ => hD w' (hx0.trans hw)) ?_
  rcases drop_cases ts c s false with h0 | ⟨k, j, n, m, x, h0, hab, hfi, hav, hn, hk, hT, hok, hkid, hmj, hj1, hnp, hkp⟩
  · rw [dropNF, if_pos h0]
    repeat (first | refine jC ?_ | refine jN ?_ | refine jS ?_ | refine jR ?_ | refine jT ?_ | refine jB ?_ | refine jX rfl ?_ | refine jY rfl ?_ | refine jK ?_ | refine jD ?_ | refine jE ?_)
    refine Br.yes (by simpa using h0) ?_
    repeat (first | refine jC ?_ | refine jN ?_ | refine jS ?_ | refine jR ?_ | refine jT ?_ | refine jB ?_ | refine jX rfl ?_ | refine jY rfl ?_ | refine jK ?_ | refine jD ?_ | refine jE ?_)
    refine Made.mk fun g9 w9 hx9 _ _ _ _ => ?_
    repeat (first | refine jC ?_ | refine jN ?_ | refine jS ?_ | refine jR ?_ | refine jT ?_ | refine jB ?_ | refine jX rfl ?_ | refine jY rfl ?_ | refine jK ?_ | refine jD ?_ | refine jE ?_)
    exact EndV.tree (p := ([], dropF (abvF ts c s) ts c false)) (hx0.trans hx9) (TreeB.empty _ _ _ _ _)
  have hv : aboveV s = .tuple #[.string x.1, .string x.2, .bool true] := by rw [aboveV, hab]
  have hF := fun w' (hw : Vc.Ext w w') => sFindNode_vc ts _ c x.1 w' ((hA.of (by have := (above_size hab).1; omega)).ext hw)
  rw [hfi] at hF
  rw [dropN_at h0 hav hn hkid, h0]
  repeat (first | refine jC ?_ | refine jN ?_ | refine jS ?_ | refine jR ?_ | refine jT ?_ | refine jB ?_ | refine jX rfl ?_ | refine jY rfl ?_ | refine jK ?_ | refine jD ?_ | refine jE ?_)
  refine CallV.val (fun w' hw _ => hv ▸ sAboveOf_vc s w' hA.size) ?_
  repeat (first | refine jC ?_ | refine jN ?_ | refine jS ?_ | refine jR ?_ | refine jT ?_ | refine jB ?_ | refine jX rfl ?_ | refine jY rfl ?_ | refine jK ?_ | refine jD ?_ | refine jE ?_)
  refine LdN.mk hcb rfl ?_
  repeat (first | refine jC ?_ | refine jN ?_ | refine jS ?_ | refine jR ?_ | refine jT ?_ | refine jB ?_ | refine jX rfl ?_ | refine jY rfl ?_ | refine jK ?_ | refine jD ?_ | refine jE ?_)
  refine CallV.val (fun w' hw _ => hF w' (hx0.trans hw)) ?_
  repeat (first | refine jC ?_ | refine jN ?_ | refine jS ?_ | refine jR ?_ | refine jT ?_ | refine jB ?_ | refine jX rfl ?_ | refine jY rfl ?_ | refine jK ?_ | refine jD ?_ | refine jE ?_)
  refine CallV.mem _ (fun w' hw _ => sCopy_vc ts _ w' (hA.tree.ext (hx0.trans hw)) hA.sized) (fun x3 wa wb hx1 hx2 hO hB => ?_)
  obtain ⟨ad', cap', g, bl, pv, rfl, hTB⟩ := hB
  have hlow : w0.heap.size ≤ wa.heap.size := hx1.size
  have hlo2 := hx2.size
  obtain ⟨rfl, hlo3, hhi3, hm3, hcs3⟩ := hTB.open_ hk
  have hpl : posN n.names x.2 < n.names.length := (List.getElem?_eq_some_iff.1 hnp).1
  have hsl := hA.sized.at hn
  have hlen := hok.len
  repeat (first | refine jC ?_ | refine jN ?_ | refine jS ?_ | refine jR ?_ | refine jT ?_ | refine jB ?_ | refine jX rfl ?_ | refine jY rfl ?_ | refine jK ?_ | refine jD ?_ | refine jE ?_)
  refine Ix.mk k rfl hk ?_
  repeat (first | refine jC ?_ | refine jN ?_ | refine jS ?_ | refine jR ?_ | refine jT ?_ | refine jB ?_ | refine jX rfl ?_ | refine jY rfl ?_ | refine jK ?_ | refine jD ?_ | refine jE ?_)
  refine LdN.mk (by rw [Nat.zero_add]; exact hcs3 k n hn) rfl ?_
  repeat (first | refine jC ?_ | refine jN ?_ | refine jS ?_ | refine jR ?_ | refine jT ?_ | refine jB ?_ | refine jX rfl ?_ | refine jY rfl ?_ | refine jK ?_ | refine jD ?_ | refine jE ?_)
  refine CallV.mem _ (fun w' hw _ => sTake_vc n _ _ x.2 (posN n.names x.2) w' ((hTB.ndIn hn).ext hw) hok.len hsl.1 hpl hnp (fun j h => posN_eq hok.asc' h)) (fun x5 wc wd hx3 hx4 hO hP2 => ?_)
  have hdl := out_links hT hn hkp
  have hso := out_sized hA.sized hn (p := posN n.names x.2)
  have hin : ∀ (i : Nat) (m : Nd), (ts.set k (n.del (posN n.names x.2)))[i]? = some m → ∀ q ∈ m.kids, 0 ≤ q ∧ q ≤ (ts.length : Int) - 1 := fun i m hi q hq => by
    obtain ⟨m', hm', hq'⟩ := del_kids hn hi hq
    have := hT.kids i m' hm' q hq'
    omega
  generalize posN n.names x.2 = p at hnp hkp hpl hP2 hdl hso hin ⊢
  obtain ⟨v1, v2, g1, g2, rfl, hB1, hB2, hne⟩ := hP2
  have hs3 := hx3.size
  have hs4 := hx4.size
  have hTBd := hTB.ext (hx3.trans hx4) (Nat.le_refl _)
  have hmd := (hm3.ext (hx3.trans hx4))
  have hle3 := hTB.le
  have hTBs := hTBd.setN (n' := n.del p) hn (by omega) (hB1.low hs3) (hB2.low hs3) hne
  obtain ⟨ad1, cap1, rfl, _⟩ := id hB1
  obtain ⟨ad2, cap2, rfl, _⟩ := id hB2
  repeat (first | refine jC ?_ | refine jN ?_ | refine jS ?_ | refine jR ?_ | refine jT ?_ | refine jB ?_ | refine jX rfl ?_ | refine jY rfl ?_ | refine jK ?_ | refine jD ?_ | refine jE ?_)
  refine Ix.mk k rfl hk ?_
  repeat (first | refine jC ?_ | refine jN ?_ | refine jS ?_ | refine jR ?_ | refine jT ?_ | refine jB ?_ | refine jX rfl ?_ | refine jY rfl ?_ | refine jK ?_ | refine jD ?_ | refine jE ?_)
  refine ⟨by have := hmd.sub (k := k * 7) (m := 7) (by omega); exact this, trivial, rfl, by simp [Value.oneCell'], ?_⟩
  repeat (first | refine jC ?_ | refine jN ?_)
  refine WpC.now (fun ws hxw _ => ?_)
  have hTBw := hTBs.ext hxw hxw.size
  have hxs : Vc.Ext w0 ws := ((((hx1.trans hx2).trans hx3).trans hx4).trans' (below_setL (Below.refl _ _) (by omega) _ _)).trans hxw
  have hol : (ts.set k (n.del p)).length = ts.length := by rw [List.length_set]
  have hhi := hT.hi
  have hlo1 := hT.lo
  have hjl : j < ts.length := (List.getElem?_eq_some_iff.1 hmj).1
  have hzs : wa.heap.size ≤ ws.heap.size := by
    have := hxw.size
    rw [setL_size] at this
    omega
  -- what goes
  obtain ⟨j', hj1', hjl', hlj, hres⟩ : ∃ j', 1 ≤ j' ∧ j' ≤ (ts.set k (n.del p)).length ∧ (∀ i : Nat, 1 ≤ i → i < (ts.set k (n.del p)).length → (0 < (linksOf (ts.set k (n.del p))).getD i 0 ↔ i ≠ j')) ∧ ((ts.set k (n.del p)).eraseIdx j').map (Nd.mapK (decI j')) = dropped (ts.set k (n.del p)) j := by
    have hpos : ∀ i : Nat, 1 ≤ i → i < ts.length → 1 ≤ (linksOf ts).getD i 0 := fun i h1 h2 => hT.some_ i _ h1 (List.getElem?_eq_getElem h2)
    by_cases h : 0 < (linksOf (ts.set k (n.del p))).getD j 0
    · refine ⟨ts.length, hlo1, by rw [hol]; exact Nat.le_refl _, fun i h1 h2 => ⟨fun _ => by rw [hol] at h2; omega, fun _ => ?_⟩, ?_⟩
      · rw [hol] at h2
        by_cases e : j = i
        · subst e; exact h
        · have := hpos i h1 h2
          rw [hdl.2 i h2, if_neg e]; omega
      · rw [dropped, if_pos h, List.eraseIdx_of_length_le (by rw [hol]; exact Nat.le_refl _)]
        refine List.ext_getElem? fun i => ?_
        rw [List.getElem?_map]
        cases hu : (ts.set k (n.del p))[i]? with
        | none => rfl
        | some u =>
          simp only [Option.map_some, Option.some.injEq]
          unfold Nd.mapK
          have e : u.kids.map (decI ts.length) = u.kids := by
            refine (List.map_congr_left fun q hq => ?_).trans (List.map_id _)
            have := hin i u hu q hq
            unfold decI
            rw [if_neg (by omega)]; rfl
          rw [e]
    · refine ⟨j, hj1, by rw [hol]; omega, fun i h1 h2 => ⟨fun h3 e => h (e ▸ h3), fun e => ?_⟩, by rw [dropped, if_neg h]⟩
      rw [hol] at h2
      have := hpos i h1 h2
      rw [hdl.2 i h2, if_neg (fun e2 => e e2.symm)]; omega
  rw [← hres]
  have hl3 : (linksOf (ts.set k (n.del p))).length = (ts.set k (n.del p)).length := by rw [hdl.1, hol]
  rw [← hol] at hin hlo1 hhi
  repeat (first | refine jC ?_ | refine jN ?_ | refine jS ?_ | refine jR ?_ | refine jT ?_ | refine jB ?_ | refine jX rfl ?_ | refine jY rfl ?_ | refine jK ?_ | refine jD ?_ | refine jE ?_)
  refine CallV.turn (Φ := fun v w1 w' => TreeB wa.heap.size w'.heap.size w' v (((ts.set k (n.del p)).eraseIdx j').map (Nd.mapK (decI j'))) ∧ ExcP (fun i => wa.heap.size ≤ i) w1 w') (fun w' hw _ => ?_) (fun v wz wy hwz ⟨hBy, hXy⟩ => ?_)
  · have := sClean_vc (hTBw.ext hw hw.size) (by have := hw.size; omega) hso hhi hlo1 hj1' hjl' hl3 hlj hin
    rw [hol] at this
    exact this
  have hxe : Vc.Ext w0 wy := (hxs.trans hwz).trans' (hXy.below (hxs.trans hwz).size fun i hi e => by omega)
  have hz0 := hx0.size
  repeat (first | refine jC ?_ | refine jN ?_ | refine jS ?_ | refine jR ?_ | refine jT ?_ | refine jB ?_ | refine jX rfl ?_ | refine jY rfl ?_ | refine jK ?_ | refine jD ?_ | refine jE ?_)
  exact EndV.tree (p := (((ts.set k (n.del p)).eraseIdx j').map (Nd.mapK (decI j')), 0)) (hx0.trans hxe) (hBy.low (by omega))
end Go.Proofs.YtbnjjpgacemicaaGreatDoor
