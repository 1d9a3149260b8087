/-
  Contracts: MoveName; the program's and the reference's.
  Conditions: bounds; the library's variable MaxLen holds some number.
-/
import Derived.Test.YtbnjjpgacemicaaGreatDoorTakeS
import Derived.Test.YtbnjjpgacemicaaGreatDoorFolders
namespace Go.Proofs.YtbnjjpgacemicaaGreatDoor
open Go.RowKit Vc
set_option linter.unusedVariables false
set_option maxHeartbeats 2000000
attribute [local irreducible] WpC WpL WpD WpE WpB CallV QCallV Made AppV Ld LdN Ix EndV I64 MutN Mut CellsAt

noncomputable def moveF (a b : Abv) (ts : List Nd) (c : Cr) : List Nd × Int := if dropF a ts c true ≠ 0 then ([], dropF a ts c true) else if (placeF b ts).2 ≠ 0 then ([], (placeF b ts).2) else match ts[a.pos.toNat]? with
  | none => ([], 0)
  | some n => match ts[(n.kid a.nm).toNat]? with
    | none => ([], 0)
    | some m => if (m.folder && !decide ((placeF b ts).1 = a.pos)) = true then ([], 4) else match (ts.set a.pos.toNat (n.del (posN n.names a.nm)))[(placeF b ts).1.toNat]? with
      | none => ([], 0)
      | some q => ((ts.set a.pos.toNat (n.del (posN n.names a.nm))).set (placeF b ts).1.toNat (q.put b.nm (n.kid a.nm)), 0)
/-- What stands behind a name that may go. -/
theorem drop_cases (ts : List Nd) (c : Cr) (s : ByteArray) (full : Bool) : (dropF (abvF ts c s) ts c full ≠ 0) ∨
    (∃ (k j : Nat) (n m : Nd) (x : ByteArray × ByteArray), dropF (abvF ts c s) ts c full = 0 ∧ aboveOf s = some x ∧ findF ts c x.1 = ((k : Int), 0) ∧ abvF ts c s = ⟨(k : Int), x.2, 0⟩ ∧ ts[k]? = some n ∧ k < ts.length ∧ TreeOk ts ∧ n.Ok ∧ n.kid x.2 = (j : Int) ∧ ts[j]? = some m ∧ 1 ≤ j ∧
      n.names[posN n.names x.2]? = some x.2 ∧ n.kids[posN n.names x.2]? = some (j : Int)) := by
  by_cases h0 : dropF (abvF ts c s) ts c full = 0
  · right
    rcases abv_cases ts c s with ⟨f, he, h1, h4⟩ | ⟨k, n, x, hab, hfi, he, hn, hk, hT, hc, hok, hfo, hma⟩
    · rw [he, dropF] at h0; simp only at h0; rw [if_pos (by omega)] at h0; omega
    · have h0' := h0
      rw [he, dropF, if_neg (by simp)] at h0
      simp only [Int.toNat_natCast, hn] at h0
      by_cases hp : n.names[posN n.names x.2]? = some x.2
      · have hlt : posN n.names x.2 < n.kids.length := by rw [← hok.len]; exact (List.getElem?_eq_some_iff.1 hp).1
        have hki : n.kids[posN n.names x.2]? = some n.kids[posN n.names x.2] := List.getElem?_eq_getElem hlt
        generalize n.kids[posN n.names x.2] = q at hki
        have hq := hT.kids k n hn q (List.mem_of_getElem? hki)
        obtain ⟨j, rfl⟩ := Int.eq_ofNat_of_zero_le (by omega : (0 : Int) ≤ q)
        have hj : j < ts.length := by have := hT.lo; omega
        exact ⟨k, j, n, ts[j], x, h0', hab, hfi, he, hn, hk, hT, hok, kid_at hok.asc' hp hki, List.getElem?_eq_getElem hj, by omega, hp, hki⟩
      · rw [kid_no hok.asc' hp, if_pos (by omega)] at h0; omega
  · exact .inl h0
theorem drop_rel (ts : List Nd) (c : Cr) (s : ByteArray) : (dropF (abvF ts c s) ts c true ≠ 0 → dropF (abvF ts c s) ts c false = dropF (abvF ts c s) ts c true ∧ dropF (abvF ts c s) ts c true ≠ 7) ∧
    (dropF (abvF ts c s) ts c true = 0 → dropF (abvF ts c s) ts c false = 0 ∨ dropF (abvF ts c s) ts c false = 7) := by
  rcases abv_cases ts c s with ⟨f, he, h1, h4⟩ | ⟨k, n, x, hab, hfi, he, hn, hk, hT, hc, hok, hfo, hma⟩
  · rw [he, dropF, dropF]
    simp only
    rw [if_pos (by omega), if_pos (by omega)]
    exact ⟨fun _ => ⟨rfl, by omega⟩, fun h => by omega⟩
  · rw [he, dropF, dropF, if_neg (by simp), if_neg (by simp)]
    simp only [Int.toNat_natCast, hn]
    split
    · exact ⟨fun _ => ⟨rfl, by omega⟩, fun h => by omega⟩
    · split
      · exact ⟨fun h => absurd rfl h, fun _ => .inl rfl⟩
      · split
        · exact ⟨fun _ => ⟨rfl, by omega⟩, fun h => by omega⟩
        · simp only [Bool.not_true, Bool.false_and, Bool.not_false, Bool.true_and]
          refine ⟨fun h => absurd (if_neg (by simp)) h, fun _ => ?_⟩
          split
          · exact .inr rfl
          · exact .inl rfl
/-- One node turns, its slices in the blocks they were in. -/
theorem TB.same {lo hi : Nat} {w w' : World} {ad : Option Addr} {cap g k : Nat} {ts : List Nd} {bl : Nat → Bool → Nat} {pv : Nat → Bool → Value} (h : TB lo hi w ad cap g ts bl pv) {n n' : Nd} {v1 v2 : Value} (hk : ts[k]? = some n) (hh : hi ≤ w.heap.size)
    (hX : ExcP (fun j => (j = bl k true ∧ 0 < capV (pv k true)) ∨ (j = bl k false ∧ 0 < capV (pv k false)) ∨ j = g) w w')
    (hm : MutN w' g 0 (cap * 7)) (hc : CellsAt w' g (k * 7) (n'.cells v1 v2)) (hco : ∀ i m, i ≠ k → ts[i]? = some m → CellsAt w' g (i * 7) (m.cells (pv i true) (pv i false)))
    (hB1 : BufS lo hi w' v1 n'.names.length 1 (strs n'.names) (bl k true)) (hB2 : BufS lo hi w' v2 n'.kids.length 1 (ints n'.kids) (bl k false)) (h1 : 0 < capV (pv k true)) (h2 : 0 < capV (pv k false)) :
    TB lo hi w' ad cap g (ts.set k n') bl (fun i b => if i = k then cond b v1 v2 else pv i b) := by
  have hkl := (List.getElem?_eq_some_iff.1 hk).1
  have hcp : ∀ b, 0 < capV (pv k b) := fun b => by cases b; exact h2; exact h1
  have key := h.turn (w' := w') (hi' := hi) (n' := n') (p1 := fun b => cond b v1 v2) (b1 := fun b => bl k b) hk hX hh (Nat.le_refl _) ⟨hm, hc, hco⟩ (fun i b hi hik hc' => ?_) (fun b => ?_) (fun _ _ => h.ne k true k false hkl hkl (.inr (by simp)) h1 h2) (fun b _ => ⟨h.neG k b hkl (hcp b), fun i b' hi hik hc' => h.ne i b' k b hi hkl (.inl hik) hc' (hcp b)⟩)
  · have e : (fun i b => if i = k then bl k b else bl i b) = bl := by
      funext i b
      by_cases h : i = k
      · rw [if_pos h, h]
      · rw [if_neg h]
    rwa [e] at key
  · rintro (⟨e, e0⟩ | ⟨e, e0⟩ | e)
    · exact h.ne i b k true hi hkl (.inl hik) hc' e0 e
    · exact h.ne i b k false hi hkl (.inl hik) hc' e0 e
    · exact h.neG i b hi hc' e
  · cases b
    · exact hB2
    · exact hB1
theorem Asc.erase {l : List ByteArray} (h : Asc l) (p : Nat) : Asc (l.eraseIdx p) := by
  intro i s t h1 h2
  rw [List.getElem?_eraseIdx] at h1 h2
  split at h1 <;> split at h2
  · exact h i s t h1 h2
  · exact h.lt 1 i s t h1 h2
  · omega
  · exact h (i + 1) s t h1 h2
theorem CellsAt.off {w : World} {b o o' : Nat} {l : List Value} (h : CellsAt w b o l) (e : o = o') : CellsAt w b o' l := e ▸ h

theorem iMoveName_vc (ts : List Nd) (v : Value) (c : Cr) (s s2 : ByteArray) (w : World) (hA : Ask w v ts s) (hA2 : Ask w v ts s2) : Turns 24 #[v, c.v, .string s, .string s2] w (moveF (abvF ts c s) (abvF ts c s2) ts c) := by
  have hD := fun w' (hw : Vc.Ext w w') => mayDrop_vc ts v c s true w' (hA.ext hw)
  have hFA := fun w' (hw : Vc.Ext w w') => folderAbove_vc ts v c s w' (hA.ext hw)
  have hP := fun w' (hw : Vc.Ext w w') => iPlaceFor_vc ts v c s2 w' (hA2.ext hw)
  unfold Turns
  refine calls_of cx_ok Tryz.func24 Tryz.ntmps24 Tryz.results24 rfl rfl ?_
  repeat (first | refine jC ?_ | refine jN ?_ | refine jS ?_ | refine jR ?_ | refine jT ?_ | refine jB ?_ | refine jX rfl ?_ | refine jY rfl ?_ | refine jK ?_ | refine jD ?_ | refine jE ?_)
  intro b hb
  repeat (first | refine jC ?_ | refine jN ?_)
  refine WpC.plain (fun w0 hx0 hO => ?_)
  have hcb : CellsAt w0 b 0 [.int .i64 c.real, .int .i64 c.acts, .int .i64 c.saved, .int .i64 c.groups] := CellsAt.of_block hO.blk0 fun i v hi => by simpa using hi
  repeat (first | refine jC ?_ | refine jN ?_ | refine jS ?_ | refine jR ?_ | refine jT ?_ | refine jB ?_ | refine jX rfl ?_ | refine jY rfl ?_ | refine jK ?_ | refine jD ?_ | refine jE ?_)
  refine LdN.mk hcb rfl ?_
  repeat (first | refine jC ?_ | refine jN ?_ | refine jS ?_ | refine jR ?_ | refine jT ?_ | refine jB ?_ | refine jX rfl ?_ | refine jY rfl ?_ | refine jK ?_ | refine jD ?_ | refine jE ?_)
  refine CallV.val (fun w' hw _ => hD w' (hx0.trans hw)) ?_
  rcases drop_cases ts c s true with h0 | ⟨k, j, n, m, x, h0, hab, hfi, hav, hn, hk, hT, hok, hkid, hmj, hj1, hnp, hkp⟩
  · rw [moveF, if_pos h0]
    repeat (first | refine jC ?_ | refine jN ?_ | refine jS ?_ | refine jR ?_ | refine jT ?_ | refine jB ?_ | refine jX rfl ?_ | refine jY rfl ?_ | refine jK ?_ | refine jD ?_ | refine jE ?_)
    refine Br.yes (by simpa using h0) ?_
    repeat (first | refine jC ?_ | refine jN ?_ | refine jS ?_ | refine jR ?_ | refine jT ?_ | refine jB ?_ | refine jX rfl ?_ | refine jY rfl ?_ | refine jK ?_ | refine jD ?_ | refine jE ?_)
    exact EndV.tree (p := ([], dropF (abvF ts c s) ts c true)) hx0 (TreeB.nil _ _ _)
  obtain ⟨ad, cap, rfl, hat⟩ := hA.tree.node
  obtain ⟨nb, no, nv, kv, rfl, hcn, hN⟩ := hat k n hn
  rw [hav] at hFA
  have hj := (List.getElem?_eq_some_iff.1 hmj).1
  rw [h0]
  repeat (first | refine jC ?_ | refine jN ?_ | refine jS ?_ | refine jR ?_ | refine jT ?_ | refine jB ?_ | refine jX rfl ?_ | refine jY rfl ?_ | refine jK ?_ | refine jD ?_ | refine jE ?_)
  refine LdN.mk hcb rfl ?_
  repeat (first | refine jC ?_ | refine jN ?_ | refine jS ?_ | refine jR ?_ | refine jT ?_ | refine jB ?_ | refine jX rfl ?_ | refine jY rfl ?_ | refine jK ?_ | refine jD ?_ | refine jE ?_)
  refine CallV.val (fun w' hw _ => hFA w' (hx0.trans hw)) ?_
  repeat (first | refine jC ?_ | refine jN ?_ | refine jS ?_ | refine jR ?_ | refine jT ?_ | refine jB ?_ | refine jX rfl ?_ | refine jY rfl ?_ | refine jK ?_ | refine jD ?_ | refine jE ?_)
  refine Ix.mk k rfl hk ?_
  repeat (first | refine jC ?_ | refine jN ?_ | refine jS ?_ | refine jR ?_ | refine jT ?_ | refine jB ?_ | refine jX rfl ?_ | refine jY rfl ?_ | refine jK ?_ | refine jD ?_ | refine jE ?_)
  refine LdN.mk (hcn.ext hx0) rfl ?_
  repeat (first | refine jC ?_ | refine jN ?_ | refine jS ?_ | refine jR ?_ | refine jT ?_ | refine jB ?_ | refine jX rfl ?_ | refine jY rfl ?_ | refine jK ?_ | refine jD ?_ | refine jE ?_)
  refine CallV.val (fun w' hw _ => iKid_vc n nv kv x.2 w' (hN.ext (hx0.trans hw)) hok.asc' (hA.sized.at hn).1 hok.len) ?_
  rw [hkid]
  repeat (first | refine jC ?_ | refine jN ?_ | refine jS ?_ | refine jR ?_ | refine jT ?_ | refine jB ?_ | refine jX rfl ?_ | refine jY rfl ?_ | refine jK ?_ | refine jD ?_ | refine jE ?_)
  refine LdN.mk hcb rfl ?_
  repeat (first | refine jC ?_ | refine jN ?_ | refine jS ?_ | refine jR ?_ | refine jT ?_ | refine jB ?_ | refine jX rfl ?_ | refine jY rfl ?_ | refine jK ?_ | refine jD ?_ | refine jE ?_)
  refine CallV.val (fun w' hw _ => hP w' (hx0.trans hw)) ?_
  rcases place_cases ts c s2 with ⟨f, he2, h1, h5⟩ | ⟨a, na, x2, hab2, hav2, he2, hna, ha, _, hoka⟩
  · have e : moveF (abvF ts c s) (abvF ts c s2) ts c = ([], f) := by rw [moveF, if_neg (by simp [h0]), he2]; simp only; rw [if_pos (by omega)]
    rw [e, he2]
    repeat (first | refine jC ?_ | refine jN ?_ | refine jS ?_ | refine jR ?_ | refine jT ?_ | refine jB ?_ | refine jX rfl ?_ | refine jY rfl ?_ | refine jK ?_ | refine jD ?_ | refine jE ?_)
    refine Br.yes (by simp; omega) ?_
    repeat (first | refine jC ?_ | refine jN ?_ | refine jS ?_ | refine jR ?_ | refine jT ?_ | refine jB ?_ | refine jX rfl ?_ | refine jY rfl ?_ | refine jK ?_ | refine jD ?_ | refine jE ?_)
    exact EndV.tree (p := ([], f)) hx0 (TreeB.nil _ _ _)
  have hmv : moveF (abvF ts c s) (abvF ts c s2) ts c = if (m.folder && !decide ((a : Int) = (k : Int))) = true then (([], 4) : List Nd × Int) else match (ts.set k (n.del (posN n.names x.2)))[a]? with
      | none => ([], 0)
      | some q => ((ts.set k (n.del (posN n.names x.2))).set a (q.put x2.2 (j : Int)), 0) := by
    rw [moveF, if_neg (by simp [h0]), he2, if_neg (by simp), hav, hav2]
    simp only [Int.toNat_natCast, hn, hkid, hmj]
  rw [hmv, he2]
  repeat (first | refine jC ?_ | refine jN ?_ | refine jS ?_ | refine jR ?_ | refine jT ?_ | refine jB ?_ | refine jX rfl ?_ | refine jY rfl ?_ | refine jK ?_ | refine jD ?_ | refine jE ?_)
  refine Ix.mk j rfl hj ?_
  repeat (first | refine jC ?_ | refine jN ?_ | refine jS ?_ | refine jR ?_ | refine jT ?_ | refine jB ?_ | refine jX rfl ?_ | refine jY rfl ?_ | refine jK ?_ | refine jD ?_ | refine jE ?_)
  obtain ⟨_, _, jv, jw, ej, hcj, _⟩ := hat j m hmj
  cases ej
  refine Ld.mk ((hcj.ext hx0).out 0 _ rfl) ?_
  repeat (first | refine jC ?_ | refine jN ?_ | refine jS ?_ | refine jR ?_ | refine jT ?_ | refine jB ?_ | refine jX rfl ?_ | refine jY rfl ?_ | refine jK ?_ | refine jD ?_ | refine jE ?_)
  have hv2 : aboveV s2 = .tuple #[.string x2.1, .string x2.2, .bool true] := by rw [aboveV, hab2]
  refine Br.intro (fun hf => ?_) (fun hf => ?_)
  · repeat (first | refine jC ?_ | refine jN ?_ | refine jS ?_ | refine jR ?_ | refine jT ?_ | refine jB ?_ | refine jX rfl ?_ | refine jY rfl ?_ | refine jK ?_ | refine jD ?_ | refine jE ?_)
    refine Br.intro (fun hf2 => ?_) (fun hf2 => ?_)
    · rw [if_pos (by rw [hf, hf2]; rfl)]
      repeat (first | refine jC ?_ | refine jN ?_ | refine jS ?_ | refine jR ?_ | refine jT ?_ | refine jB ?_ | refine jX rfl ?_ | refine jY rfl ?_ | refine jK ?_ | refine jD ?_ | refine jE ?_)
      exact EndV.tree (p := ([], 4)) hx0 (TreeB.nil _ _ _)
    · rw [if_neg (by rw [hf, hf2]; simp)]
      repeat (first | refine jC ?_ | refine jN ?_ | refine jS ?_ | refine jR ?_ | refine jT ?_ | refine jB ?_ | refine jX rfl ?_ | refine jY rfl ?_ | refine jK ?_ | refine jD ?_ | refine jE ?_)
      refine CallV.val (fun w' hw _ => hv2 ▸ iAboveOf_vc s2 w' hA2.size (hA2.ml.ext (hx0.trans hw))) ?_
      repeat (first | refine jC ?_ | refine jN ?_ | refine jS ?_ | refine jR ?_ | refine jT ?_ | refine jB ?_ | refine jX rfl ?_ | refine jY rfl ?_ | refine jK ?_ | refine jD ?_ | refine jE ?_)
      refine CallV.mem _ (fun w' hw _ => iCopy_vc ts _ w' (hA.tree.ext (hx0.trans hw)) hA.sized) (fun x3 wa wb hx1 hx2 hO hB => ?_)
      obtain ⟨ad', cap', g, bl, pv, rfl, hTB⟩ := hB
      have hlow : w0.heap.size ≤ wa.heap.size := hx1.size
      have hlo2 := hx2.size
      obtain ⟨rfl, hlo3, hhi3, hm3, hcs3⟩ := hTB.open_ hk
      repeat (first | refine jC ?_ | refine jN ?_ | refine jS ?_ | refine jR ?_ | refine jT ?_ | refine jB ?_ | refine jX rfl ?_ | refine jY rfl ?_ | refine jK ?_ | refine jD ?_ | refine jE ?_)
      refine Ix.mk k rfl hk ?_
      repeat (first | refine jC ?_ | refine jN ?_ | refine jS ?_ | refine jR ?_ | refine jT ?_ | refine jB ?_ | refine jX rfl ?_ | refine jY rfl ?_ | refine jK ?_ | refine jD ?_ | refine jE ?_)
      refine Ld.mk ((show CellsAt wb g (0 + k * 7) (n.cells (pv k true) (pv k false)) by rw [Nat.zero_add]; exact hcs3 k n hn).out 5 _ rfl) ?_
      repeat (first | refine jC ?_ | refine jN ?_ | refine jS ?_ | refine jR ?_ | refine jT ?_ | refine jB ?_ | refine jX rfl ?_ | refine jY rfl ?_ | refine jK ?_ | refine jD ?_ | refine jE ?_)
      refine CallV.val (fun w' hw _ => index_call n.names _ x.2 w' ((hTB.pc k n true hn).row1.ext hw) hok.asc' hnp (hA.sized.at hn).1) ?_
      repeat (first | refine jC ?_ | refine jN ?_ | refine jS ?_ | refine jR ?_ | refine jT ?_ | refine jB ?_ | refine jX rfl ?_ | refine jY rfl ?_ | refine jK ?_ | refine jD ?_ | refine jE ?_)
      have hpn := hTB.pc k n true hn
      have hpk := hTB.pc k n false hn
      have hgn := hTB.neG k true hk
      have hgk := hTB.neG k false hk
      have hnk := hTB.ne k true k false hk hk (.inr (by simp))
      simp only [contN, cont] at hpn hpk
      have hcD : ∀ w', ExcP (fun j => (j = bl k true ∧ 0 < capV (pv k true)) ∨ (j = bl k false ∧ 0 < capV (pv k false))) wb w' → CellsAt w' g (0 + k * 7) (n.cells (pv k true) (pv k false)) := fun w' hw => by
        rw [Nat.zero_add]
        exact (hcs3 k n hn).exc hhi3 hw (by rintro (⟨e, e0⟩ | ⟨e, e0⟩); exact hgn e0 e.symm; exact hgk e0 e.symm)
      have hpl : posN n.names x.2 < n.names.length := (List.getElem?_eq_some_iff.1 hnp).1
      have hsl := hA.sized.at hn
      have hlen := hok.len
      generalize posN n.names x.2 = p at hnp hkp hpl ⊢
      refine WpC.drawD (ExcP (fun j => (j = bl k true ∧ 0 < capV (pv k true)) ∨ (j = bl k false ∧ 0 < capV (pv k false))) wb) (fun w' hw => ExcP.of_ext hw) (.st 0 (.st 1 (.st 2 (.st 3 (.st 4 (.st 5 (.st 6 (.st 7 (.st 8 (.st 9 (.st 10 (.st 11 (.st 13 (.st 14 (.st 15 (.st 16 (.st 17 (.st 18 (.st 19 (.st 20 (.ef 12 (.ef 21 (.st 22 (.st 23 (.ef 24 (.st 25 (.st 26 (.ef 27 .done .done))) .done))) .done) .done))))))))))))))))))))) [(0, .mv), (1, .mv), (2, .mv), (3, .mv), (4, .mv), (5, .mv), (9, .mv), (10, .mv), (12, .ef), (13, .mv), (14, .mv), (18, .mv), (19, .mv), (21, .ef), (24, .br), (27, .br)] (by kernel_rfl) ?_
      repeat (first | refine uM ?_ | refine uR ?_ | refine uE ?_ | refine uB ?_ | refine uA ?_ | refine uD ?_ | refine jC ?_ | refine jN ?_ | refine jS ?_ | refine jR ?_ | refine jT ?_ | refine jB ?_ | refine jX rfl ?_ | refine jY rfl ?_ | refine jK ?_ | refine jD ?_ | refine jE ?_)
      refine WpE.rdD (by exact rfl) (by exact rfl) ?_
      refine ⟨_, fun w' hw => Ix.mk k rfl hk rfl, ?_⟩
      repeat (first | refine uM ?_ | refine uR ?_ | refine uE ?_ | refine uB ?_ | refine uA ?_ | refine uD ?_ | refine jC ?_ | refine jN ?_ | refine jS ?_ | refine jR ?_ | refine jT ?_ | refine jB ?_ | refine jX rfl ?_ | refine jY rfl ?_ | refine jK ?_ | refine jD ?_ | refine jE ?_)
      refine WpE.rdD (by exact rfl) (by exact rfl) ?_
      refine ⟨_, fun w' hw => rfl, ?_⟩
      repeat (first | refine uM ?_ | refine uR ?_ | refine uE ?_ | refine uB ?_ | refine uA ?_ | refine uD ?_ | refine jC ?_ | refine jN ?_ | refine jS ?_ | refine jR ?_ | refine jT ?_ | refine jB ?_ | refine jX rfl ?_ | refine jY rfl ?_ | refine jK ?_ | refine jD ?_ | refine jE ?_)
      refine WpE.rdD (by exact rfl) (by exact rfl) ?_
      refine ⟨_, fun w' hw => Ld.mk ((hcD w' hw).out 5 _ rfl) rfl, ?_⟩
      repeat (first | refine uM ?_ | refine uR ?_ | refine uE ?_ | refine uB ?_ | refine uA ?_ | refine uD ?_ | refine jC ?_ | refine jN ?_ | refine jS ?_ | refine jR ?_ | refine jT ?_ | refine jB ?_ | refine jX rfl ?_ | refine jY rfl ?_ | refine jK ?_ | refine jD ?_ | refine jE ?_)
      refine WpE.rdD (by exact rfl) (by exact rfl) ?_
      refine ⟨_, fun w' hw => ⟨I64.mk (by omega), rfl⟩, ?_⟩
      repeat (first | refine uM ?_ | refine uR ?_ | refine uE ?_ | refine uB ?_ | refine uA ?_ | refine uD ?_ | refine jC ?_ | refine jN ?_ | refine jS ?_ | refine jR ?_ | refine jT ?_ | refine jB ?_ | refine jX rfl ?_ | refine jY rfl ?_ | refine jK ?_ | refine jD ?_ | refine jE ?_)
      refine WpE.rdD (by exact rfl) (by exact rfl) ?_
      refine ⟨_, fun w' hw => Ix.mk k rfl hk rfl, ?_⟩
      repeat (first | refine uM ?_ | refine uR ?_ | refine uE ?_ | refine uB ?_ | refine uA ?_ | refine uD ?_ | refine jC ?_ | refine jN ?_ | refine jS ?_ | refine jR ?_ | refine jT ?_ | refine jB ?_ | refine jX rfl ?_ | refine jY rfl ?_ | refine jK ?_ | refine jD ?_ | refine jE ?_)
      refine WpE.rdD (by exact rfl) (by exact rfl) ?_
      refine ⟨_, fun w' hw => rfl, ?_⟩
      repeat (first | refine uM ?_ | refine uR ?_ | refine uE ?_ | refine uB ?_ | refine uA ?_ | refine uD ?_ | refine jC ?_ | refine jN ?_ | refine jS ?_ | refine jR ?_ | refine jT ?_ | refine jB ?_ | refine jX rfl ?_ | refine jY rfl ?_ | refine jK ?_ | refine jD ?_ | refine jE ?_)
      refine WpE.rdD (by exact rfl) (by exact rfl) ?_
      refine ⟨_, fun w' hw => Ld.mk ((hcD w' hw).out 6 _ rfl) rfl, ?_⟩
      repeat (first | refine uM ?_ | refine uR ?_ | refine uE ?_ | refine uB ?_ | refine uA ?_ | refine uD ?_ | refine jC ?_ | refine jN ?_ | refine jS ?_ | refine jR ?_ | refine jT ?_ | refine jB ?_ | refine jX rfl ?_ | refine jY rfl ?_ | refine jK ?_ | refine jD ?_ | refine jE ?_)
      refine WpE.rdD (by exact rfl) (by exact rfl) ?_
      refine ⟨_, fun w' hw => ⟨I64.mk (by omega), rfl⟩, ?_⟩
      repeat (first | refine uM ?_ | refine uR ?_ | refine uE ?_ | refine uB ?_ | refine uA ?_ | refine uD ?_ | refine jC ?_ | refine jN ?_ | refine jS ?_ | refine jR ?_ | refine jT ?_ | refine jB ?_ | refine jX rfl ?_ | refine jY rfl ?_ | refine jK ?_ | refine jD ?_ | refine jE ?_)
      refine CallV.turn _ (fun w' hw _ => deleteS_call n.names (pv k true) (bl k true) p w' (hpn.ext hw (Nat.le_refl _)) hpl hsl.1) (fun v1 wx wy hxx hΦ => ?_)
      obtain ⟨hBn, _, hcap1, hXn⟩ := hΦ
      obtain ⟨ad1, cap1, rfl, _⟩ := id hBn
      have hX1 : ExcP (fun j => j = bl k true ∧ 0 < capV (pv k true)) wb wy := (ExcP.of_ext hxx).trans (hXn.mono fun j e => ⟨e, hcap1⟩)
      refine ⟨Keep.mk fun w' hw => (hX1.mono fun j e => .inl e).trans (ExcP.of_ext hw), ?_⟩
      repeat (first | refine uM ?_ | refine uR ?_ | refine uE ?_ | refine uB ?_ | refine uA ?_ | refine uD ?_ | refine jC ?_ | refine jN ?_ | refine jS ?_ | refine jR ?_ | refine jT ?_ | refine jB ?_ | refine jX rfl ?_ | refine jY rfl ?_ | refine jK ?_ | refine jD ?_ | refine jE ?_)
      refine CallV.turn _ (fun w' hw _ => deleteI_call n.kids (pv k false) (bl k false) p w' ((hpk.exc (hX1.trans (ExcP.of_ext hw)) (fun hc e => hnk e.2 hc e.1.symm) (Nat.le_refl _) (Nat.le_refl _))) (by omega) hsl.2) (fun v2 wu wz hxu hΦ => ?_)
      obtain ⟨hBk, _, hcap2, hXk⟩ := hΦ
      obtain ⟨ad2, cap2, rfl, _⟩ := id hBk
      have hz : ExcP (fun j => (j = bl k true ∧ 0 < capV (pv k true)) ∨ (j = bl k false ∧ 0 < capV (pv k false))) wb wz := ((hX1.mono fun j e => .inl e).trans (ExcP.of_ext hxu)).trans (hXk.mono fun j e => .inr ⟨e, hcap2⟩)
      have hszn := hX1.size
      have hszu := hxu.size
      have hblk1 := (hpn.blk hcap1)
      have hblk2 := (hpk.blk hcap2)
      have hBnz := (hBn.ext hxu (Nat.le_refl _)).exc hXk (fun _ e => hnk hcap1 hcap2 e) (by omega) (Nat.le_refl _)
      refine ⟨Keep.mk fun w' hw => hz.trans (ExcP.of_ext hw), ?_⟩
      repeat (first | refine uM ?_ | refine uR ?_ | refine uE ?_ | refine uB ?_ | refine uA ?_ | refine uD ?_ | refine jC ?_ | refine jN ?_ | refine jS ?_ | refine jR ?_ | refine jT ?_ | refine jB ?_ | refine jX rfl ?_ | refine jY rfl ?_ | refine jK ?_ | refine jD ?_ | refine jE ?_)
      refine WpE.rdD (by exact rfl) (by exact rfl) ?_
      refine ⟨_, fun w' hw => Ix.mk k rfl hk rfl, ?_⟩
      repeat (first | refine uM ?_ | refine uR ?_ | refine uE ?_ | refine uB ?_ | refine uA ?_ | refine uD ?_ | refine jC ?_ | refine jN ?_ | refine jS ?_ | refine jR ?_ | refine jT ?_ | refine jB ?_ | refine jX rfl ?_ | refine jY rfl ?_ | refine jK ?_ | refine jD ?_ | refine jE ?_)
      refine WpE.rdD (by exact rfl) (by exact rfl) ?_
      refine ⟨_, fun w' hw => rfl, ?_⟩
      repeat (first | refine uM ?_ | refine uR ?_ | refine uE ?_ | refine uB ?_ | refine uA ?_ | refine uD ?_ | refine jC ?_ | refine jN ?_ | refine jS ?_ | refine jR ?_ | refine jT ?_ | refine jB ?_ | refine jX rfl ?_ | refine jY rfl ?_ | refine jK ?_ | refine jD ?_ | refine jE ?_)
      have hgD : ¬ ((g = bl k true ∧ 0 < capV (pv k true)) ∨ (g = bl k false ∧ 0 < capV (pv k false))) := by
        rintro (⟨e, e0⟩ | ⟨e, e0⟩)
        · exact hgn e0 e.symm
        · exact hgk e0 e.symm
      have hmz : MutN wz g 0 (cap' * 7) := hm3.exc hhi3 hz hgD
      have hle3 := hTB.le
      refine ⟨by have := hmz.sub (k := k * 7 + 5) (m := 1) (by omega); rwa [← Nat.add_assoc] at this, trivial, rfl, by simp [Value.oneCell'], ?_⟩
      repeat (first | refine uM ?_ | refine uR ?_ | refine uE ?_ | refine uB ?_ | refine uA ?_ | refine uD ?_ | refine jC ?_ | refine jN ?_ | refine jS ?_ | refine jR ?_ | refine jT ?_ | refine jB ?_ | refine jX rfl ?_ | refine jY rfl ?_ | refine jK ?_ | refine jD ?_ | refine jE ?_)
      have hmz1 : MutN (setL wz g (0 + k * 7 + 5) [.slice ad1 (n.names.length - 1) cap1]) g 0 (cap' * 7) := MutN.setL _ _ _ hmz
      refine Ix.mk k rfl hk ?_
      repeat (first | refine uM ?_ | refine uR ?_ | refine uE ?_ | refine uB ?_ | refine uA ?_ | refine uD ?_ | refine jC ?_ | refine jN ?_ | refine jS ?_ | refine jR ?_ | refine jT ?_ | refine jB ?_ | refine jX rfl ?_ | refine jY rfl ?_ | refine jK ?_ | refine jD ?_ | refine jE ?_)
      refine ⟨by have := hmz1.sub (k := k * 7 + 6) (m := 1) (by omega); rwa [← Nat.add_assoc] at this, trivial, rfl, by simp [Value.oneCell'], ?_⟩
      have hXg : ExcP (fun j => j = g) wz (setL (setL wz g (0 + k * 7 + 5) [.slice ad1 (n.names.length - 1) cap1]) g (0 + k * 7 + 6) [.slice ad2 (n.kids.length - 1) cap2]) := ((ExcP.refl (fun j => j = g) wz).setL (S := fun j => j = g) rfl _ _).setL (S := fun j => j = g) rfl _ _
      have hcz : CellsAt (setL (setL wz g (0 + k * 7 + 5) [.slice ad1 (n.names.length - 1) cap1]) g (0 + k * 7 + 6) [.slice ad2 (n.kids.length - 1) cap2]) g (0 + k * 7) (((n.cells (pv k true) (pv k false)).set 5 (.slice ad1 (n.names.length - 1) cap1)).set 6 (.slice ad2 (n.kids.length - 1) cap2)) :=
        ((hcD wz hz).setAt (by have := hmz.sub (k := k * 7 + 5) (m := 1) (by omega); rwa [← Nat.add_assoc] at this) (by simp)).setAt (by have := hmz1.sub (k := k * 7 + 6) (m := 1) (by omega); rwa [← Nat.add_assoc] at this) (by simp)
      have hco : ∀ i m, i ≠ k → ts[i]? = some m → CellsAt (setL (setL wz g (0 + k * 7 + 5) [.slice ad1 (n.names.length - 1) cap1]) g (0 + k * 7 + 6) [.slice ad2 (n.kids.length - 1) cap2]) g (i * 7) (m.cells (pv i true) (pv i false)) := fun i m hik hm' => by
        have e : (m.cells (pv i true) (pv i false)).length = 7 := rfl
        exact (((hcs3 i m hm').exc hhi3 hz hgD).setL_out (.inr (by rw [e]; simp only [List.length_cons, List.length_nil]; omega))).setL_out (.inr (by rw [e]; simp only [List.length_cons, List.length_nil]; omega))
      have hmf : MutN (setL (setL wz g (0 + k * 7 + 5) [.slice ad1 (n.names.length - 1) cap1]) g (0 + k * 7 + 6) [.slice ad2 (n.kids.length - 1) cap2]) g 0 (cap' * 7) := MutN.setL _ _ _ hmz1
      have hl1 : (n.del p).names.length = n.names.length - 1 := by show (n.names.eraseIdx p).length = _; rw [List.length_eraseIdx, if_pos hpl]
      have hl2 : (n.del p).kids.length = n.kids.length - 1 := by show (n.kids.eraseIdx p).length = _; rw [List.length_eraseIdx, if_pos (by omega)]
      have hTBd := hTB.same (n' := n.del p) (v1 := .slice ad1 (n.names.length - 1) cap1) (v2 := .slice ad2 (n.kids.length - 1) cap2) hn (Nat.le_refl _) ((hz.mono fun j e => e.elim (fun e => .inl e) fun e => .inr (.inl e)).trans (hXg.mono fun j e => .inr (.inr e))) hmf (CellsAt.off hcz (Nat.zero_add _)) hco
        (by rw [hl1]; exact hBnz.exc hXg (fun _ e => hgn hcap1 e) (by have := hXk.size; omega) (Nat.le_refl _)) (by rw [hl2]; exact hBk.exc hXg (fun _ e => hgk hcap2 e) (by have := hXk.size; omega) (Nat.le_refl _)) hcap1 hcap2
      have hXd : ExcP (fun j => wa.heap.size ≤ j) wb (setL (setL wz g (0 + k * 7 + 5) [.slice ad1 (n.names.length - 1) cap1]) g (0 + k * 7 + 6) [.slice ad2 (n.kids.length - 1) cap2]) := (hz.mono fun j e => by rcases e with ⟨e, _⟩ | ⟨e, _⟩ <;> omega).trans (hXg.mono fun j e => by omega)
      repeat (first | refine uM ?_ | refine uR ?_ | refine uE ?_ | refine uB ?_ | refine uA ?_ | refine uD ?_)
      refine WpC.now (fun ws hxs _ => ?_)
      have hTBs := hTBd.ext (hi' := ws.heap.size) hxs (by have := hXd.size; have := hxs.size; omega)
      obtain ⟨q, hq, hq1, hq2, hq3⟩ : ∃ q, (ts.set k (n.del p))[a]? = some q ∧ q.names.length = q.kids.length ∧ q.names.length ≤ 8388608 ∧ Asc q.names := by
        by_cases e : a = k
        · subst e
          exact ⟨n.del p, by rw [List.getElem?_set_self hk], by rw [hl1, hl2]; omega, by rw [hl1]; omega, hok.asc'.erase p⟩
        · exact ⟨na, by rw [List.getElem?_set_ne (Ne.symm e)]; exact hna, hoka.len, (hA.sized.at hna).1, hoka.asc'⟩
      rw [hq]
      have hsz5 := hxs.size
      have hXdz := hXd.size
      repeat (first | refine jC ?_ | refine jN ?_ | refine jS ?_ | refine jR ?_ | refine jT ?_ | refine jB ?_ | refine jX rfl ?_ | refine jY rfl ?_ | refine jK ?_ | refine jD ?_ | refine jE ?_)
      refine Ix.mk a rfl ha ?_
      repeat (first | refine jC ?_ | refine jN ?_ | refine jS ?_ | refine jR ?_ | refine jT ?_ | refine jB ?_ | refine jX rfl ?_ | refine jY rfl ?_ | refine jK ?_ | refine jD ?_ | refine jE ?_)
      refine CallV.turn _ (fun w' hw _ => addName_at (Nat.zero_add _) (hTBs.ext hw hw.size) (Nat.le_refl _) (by have := hw.size; omega) x2.2 (j : Int) hq hq1 hq2 hq3) (fun u wc wd hxa hΦ => ?_)
      obtain ⟨⟨bl4, pv4, hTB4⟩, hX4⟩ := hΦ
      repeat (first | refine jC ?_ | refine jN ?_ | refine jS ?_ | refine jR ?_ | refine jT ?_ | refine jB ?_ | refine jX rfl ?_ | refine jY rfl ?_ | refine jK ?_ | refine jD ?_ | refine jE ?_)
      have hw0 := hx0.size
      have hxws : Vc.Ext w ws := (((hx0.trans hx1).trans hx2).trans' (hXd.below (by omega) fun j hj e => by omega)).trans hxs
      refine EndV.tree (p := ((ts.set k (n.del p)).set a (q.put x2.2 (j : Int)), 0)) ((hxws.trans hxa).trans' (hX4.below (by have := hxws.size; have := hxa.size; omega) fun j hj e => by omega)) ?_
      exact ⟨_, _, _, _, _, by simp, hTB4.low (by omega)⟩
  · rw [if_neg (by rw [hf]; simp)]
    repeat (first | refine jC ?_ | refine jN ?_ | refine jS ?_ | refine jR ?_ | refine jT ?_ | refine jB ?_ | refine jX rfl ?_ | refine jY rfl ?_ | refine jK ?_ | refine jD ?_ | refine jE ?_)
    refine CallV.val (fun w' hw _ => hv2 ▸ iAboveOf_vc s2 w' hA2.size (hA2.ml.ext (hx0.trans hw))) ?_
    repeat (first | refine jC ?_ | refine jN ?_ | refine jS ?_ | refine jR ?_ | refine jT ?_ | refine jB ?_ | refine jX rfl ?_ | refine jY rfl ?_ | refine jK ?_ | refine jD ?_ | refine jE ?_)
    refine CallV.mem _ (fun w' hw _ => iCopy_vc ts _ w' (hA.tree.ext (hx0.trans hw)) hA.sized) (fun x3 wa wb hx1 hx2 hO hB => ?_)
    obtain ⟨ad', cap', g, bl, pv, rfl, hTB⟩ := hB
    have hlow : w0.heap.size ≤ wa.heap.size := hx1.size
    have hlo2 := hx2.size
    obtain ⟨rfl, hlo3, hhi3, hm3, hcs3⟩ := hTB.open_ hk
    repeat (first | refine jC ?_ | refine jN ?_ | refine jS ?_ | refine jR ?_ | refine jT ?_ | refine jB ?_ | refine jX rfl ?_ | refine jY rfl ?_ | refine jK ?_ | refine jD ?_ | refine jE ?_)
    refine Ix.mk k rfl hk ?_
    repeat (first | refine jC ?_ | refine jN ?_ | refine jS ?_ | refine jR ?_ | refine jT ?_ | refine jB ?_ | refine jX rfl ?_ | refine jY rfl ?_ | refine jK ?_ | refine jD ?_ | refine jE ?_)
    refine Ld.mk ((show CellsAt wb g (0 + k * 7) (n.cells (pv k true) (pv k false)) by rw [Nat.zero_add]; exact hcs3 k n hn).out 5 _ rfl) ?_
    repeat (first | refine jC ?_ | refine jN ?_ | refine jS ?_ | refine jR ?_ | refine jT ?_ | refine jB ?_ | refine jX rfl ?_ | refine jY rfl ?_ | refine jK ?_ | refine jD ?_ | refine jE ?_)
    refine CallV.val (fun w' hw _ => index_call n.names _ x.2 w' ((hTB.pc k n true hn).row1.ext hw) hok.asc' hnp (hA.sized.at hn).1) ?_
    repeat (first | refine jC ?_ | refine jN ?_ | refine jS ?_ | refine jR ?_ | refine jT ?_ | refine jB ?_ | refine jX rfl ?_ | refine jY rfl ?_ | refine jK ?_ | refine jD ?_ | refine jE ?_)
    have hpn := hTB.pc k n true hn
    have hpk := hTB.pc k n false hn
    have hgn := hTB.neG k true hk
    have hgk := hTB.neG k false hk
    have hnk := hTB.ne k true k false hk hk (.inr (by simp))
    simp only [contN, cont] at hpn hpk
    have hcD : ∀ w', ExcP (fun j => (j = bl k true ∧ 0 < capV (pv k true)) ∨ (j = bl k false ∧ 0 < capV (pv k false))) wb w' → CellsAt w' g (0 + k * 7) (n.cells (pv k true) (pv k false)) := fun w' hw => by
      rw [Nat.zero_add]
      exact (hcs3 k n hn).exc hhi3 hw (by rintro (⟨e, e0⟩ | ⟨e, e0⟩); exact hgn e0 e.symm; exact hgk e0 e.symm)
    have hpl : posN n.names x.2 < n.names.length := (List.getElem?_eq_some_iff.1 hnp).1
    have hsl := hA.sized.at hn
    have hlen := hok.len
    generalize posN n.names x.2 = p at hnp hkp hpl ⊢
    refine WpC.drawD (ExcP (fun j => (j = bl k true ∧ 0 < capV (pv k true)) ∨ (j = bl k false ∧ 0 < capV (pv k false))) wb) (fun w' hw => ExcP.of_ext hw) (.st 0 (.st 1 (.st 2 (.st 3 (.st 4 (.st 5 (.st 6 (.st 7 (.st 8 (.st 9 (.st 10 (.st 11 (.st 13 (.st 14 (.st 15 (.st 16 (.st 17 (.st 18 (.st 19 (.st 20 (.ef 12 (.ef 21 (.st 22 (.st 23 (.ef 24 (.st 25 (.st 26 (.ef 27 .done .done))) .done))) .done) .done))))))))))))))))))))) [(0, .mv), (1, .mv), (2, .mv), (3, .mv), (4, .mv), (5, .mv), (9, .mv), (10, .mv), (12, .ef), (13, .mv), (14, .mv), (18, .mv), (19, .mv), (21, .ef), (24, .br), (27, .br)] (by kernel_rfl) ?_
    repeat (first | refine uM ?_ | refine uR ?_ | refine uE ?_ | refine uB ?_ | refine uA ?_ | refine uD ?_ | refine jC ?_ | refine jN ?_ | refine jS ?_ | refine jR ?_ | refine jT ?_ | refine jB ?_ | refine jX rfl ?_ | refine jY rfl ?_ | refine jK ?_ | refine jD ?_ | refine jE ?_)
    refine WpE.rdD (by exact rfl) (by exact rfl) ?_
    refine ⟨_, fun w' hw => Ix.mk k rfl hk rfl, ?_⟩
    repeat (first | refine uM ?_ | refine uR ?_ | refine uE ?_ | refine uB ?_ | refine uA ?_ | refine uD ?_ | refine jC ?_ | refine jN ?_ | refine jS ?_ | refine jR ?_ | refine jT ?_ | refine jB ?_ | refine jX rfl ?_ | refine jY rfl ?_ | refine jK ?_ | refine jD ?_ | refine jE ?_)
    refine WpE.rdD (by exact rfl) (by exact rfl) ?_
    refine ⟨_, fun w' hw => rfl, ?_⟩
    repeat (first | refine uM ?_ | refine uR ?_ | refine uE ?_ | refine uB ?_ | refine uA ?_ | refine uD ?_ | refine jC ?_ | refine jN ?_ | refine jS ?_ | refine jR ?_ | refine jT ?_ | refine jB ?_ | refine jX rfl ?_ | refine jY rfl ?_ | refine jK ?_ | refine jD ?_ | refine jE ?_)
    refine WpE.rdD (by exact rfl) (by exact rfl) ?_
    refine ⟨_, fun w' hw => Ld.mk ((hcD w' hw).out 5 _ rfl) rfl, ?_⟩
    repeat (first | refine uM ?_ | refine uR ?_ | refine uE ?_ | refine uB ?_ | refine uA ?_ | refine uD ?_ | refine jC ?_ | refine jN ?_ | refine jS ?_ | refine jR ?_ | refine jT ?_ | refine jB ?_ | refine jX rfl ?_ | refine jY rfl ?_ | refine jK ?_ | refine jD ?_ | refine jE ?_)
    refine WpE.rdD (by exact rfl) (by exact rfl) ?_
    refine ⟨_, fun w' hw => ⟨I64.mk (by omega), rfl⟩, ?_⟩
    repeat (first | refine uM ?_ | refine uR ?_ | refine uE ?_ | refine uB ?_ | refine uA ?_ | refine uD ?_ | refine jC ?_ | refine jN ?_ | refine jS ?_ | refine jR ?_ | refine jT ?_ | refine jB ?_ | refine jX rfl ?_ | refine jY rfl ?_ | refine jK ?_ | refine jD ?_ | refine jE ?_)
    refine WpE.rdD (by exact rfl) (by exact rfl) ?_
    refine ⟨_, fun w' hw => Ix.mk k rfl hk rfl, ?_⟩
    repeat (first | refine uM ?_ | refine uR ?_ | refine uE ?_ | refine uB ?_ | refine uA ?_ | refine uD ?_ | refine jC ?_ | refine jN ?_ | refine jS ?_ | refine jR ?_ | refine jT ?_ | refine jB ?_ | refine jX rfl ?_ | refine jY rfl ?_ | refine jK ?_ | refine jD ?_ | refine jE ?_)
    refine WpE.rdD (by exact rfl) (by exact rfl) ?_
    refine ⟨_, fun w' hw => rfl, ?_⟩
    repeat (first | refine uM ?_ | refine uR ?_ | refine uE ?_ | refine uB ?_ | refine uA ?_ | refine uD ?_ | refine jC ?_ | refine jN ?_ | refine jS ?_ | refine jR ?_ | refine jT ?_ | refine jB ?_ | refine jX rfl ?_ | refine jY rfl ?_ | refine jK ?_ | refine jD ?_ | refine jE ?_)
    refine WpE.rdD (by exact rfl) (by exact rfl) ?_
    refine ⟨_, fun w' hw => Ld.mk ((hcD w' hw).out 6 _ rfl) rfl, ?_⟩
    repeat (first | refine uM ?_ | refine uR ?_ | refine uE ?_ | refine uB ?_ | refine uA ?_ | refine uD ?_ | refine jC ?_ | refine jN ?_ | refine jS ?_ | refine jR ?_ | refine jT ?_ | refine jB ?_ | refine jX rfl ?_ | refine jY rfl ?_ | refine jK ?_ | refine jD ?_ | refine jE ?_)
    refine WpE.rdD (by exact rfl) (by exact rfl) ?_
    refine ⟨_, fun w' hw => ⟨I64.mk (by omega), rfl⟩, ?_⟩
    repeat (first | refine uM ?_ | refine uR ?_ | refine uE ?_ | refine uB ?_ | refine uA ?_ | refine uD ?_ | refine jC ?_ | refine jN ?_ | refine jS ?_ | refine jR ?_ | refine jT ?_ | refine jB ?_ | refine jX rfl ?_ | refine jY rfl ?_ | refine jK ?_ | refine jD ?_ | refine jE ?_)
    refine CallV.turn _ (fun w' hw _ => deleteS_call n.names (pv k true) (bl k true) p w' (hpn.ext hw (Nat.le_refl _)) hpl hsl.1) (fun v1 wx wy hxx hΦ => ?_)
    obtain ⟨hBn, _, hcap1, hXn⟩ := hΦ
    obtain ⟨ad1, cap1, rfl, _⟩ := id hBn
    have hX1 : ExcP (fun j => j = bl k true ∧ 0 < capV (pv k true)) wb wy := (ExcP.of_ext hxx).trans (hXn.mono fun j e => ⟨e, hcap1⟩)
    refine ⟨Keep.mk fun w' hw => (hX1.mono fun j e => .inl e).trans (ExcP.of_ext hw), ?_⟩
    repeat (first | refine uM ?_ | refine uR ?_ | refine uE ?_ | refine uB ?_ | refine uA ?_ | refine uD ?_ | refine jC ?_ | refine jN ?_ | refine jS ?_ | refine jR ?_ | refine jT ?_ | refine jB ?_ | refine jX rfl ?_ | refine jY rfl ?_ | refine jK ?_ | refine jD ?_ | refine jE ?_)
    refine CallV.turn _ (fun w' hw _ => deleteI_call n.kids (pv k false) (bl k false) p w' ((hpk.exc (hX1.trans (ExcP.of_ext hw)) (fun hc e => hnk e.2 hc e.1.symm) (Nat.le_refl _) (Nat.le_refl _))) (by omega) hsl.2) (fun v2 wu wz hxu hΦ => ?_)
    obtain ⟨hBk, _, hcap2, hXk⟩ := hΦ
    obtain ⟨ad2, cap2, rfl, _⟩ := id hBk
    have hz : ExcP (fun j => (j = bl k true ∧ 0 < capV (pv k true)) ∨ (j = bl k false ∧ 0 < capV (pv k false))) wb wz := ((hX1.mono fun j e => .inl e).trans (ExcP.of_ext hxu)).trans (hXk.mono fun j e => .inr ⟨e, hcap2⟩)
    have hszn := hX1.size
    have hszu := hxu.size
    have hblk1 := (hpn.blk hcap1)
    have hblk2 := (hpk.blk hcap2)
    have hBnz := (hBn.ext hxu (Nat.le_refl _)).exc hXk (fun _ e => hnk hcap1 hcap2 e) (by omega) (Nat.le_refl _)
    refine ⟨Keep.mk fun w' hw => hz.trans (ExcP.of_ext hw), ?_⟩
    repeat (first | refine uM ?_ | refine uR ?_ | refine uE ?_ | refine uB ?_ | refine uA ?_ | refine uD ?_ | refine jC ?_ | refine jN ?_ | refine jS ?_ | refine jR ?_ | refine jT ?_ | refine jB ?_ | refine jX rfl ?_ | refine jY rfl ?_ | refine jK ?_ | refine jD ?_ | refine jE ?_)
    refine WpE.rdD (by exact rfl) (by exact rfl) ?_
    refine ⟨_, fun w' hw => Ix.mk k rfl hk rfl, ?_⟩
    repeat (first | refine uM ?_ | refine uR ?_ | refine uE ?_ | refine uB ?_ | refine uA ?_ | refine uD ?_ | refine jC ?_ | refine jN ?_ | refine jS ?_ | refine jR ?_ | refine jT ?_ | refine jB ?_ | refine jX rfl ?_ | refine jY rfl ?_ | refine jK ?_ | refine jD ?_ | refine jE ?_)
    refine WpE.rdD (by exact rfl) (by exact rfl) ?_
    refine ⟨_, fun w' hw => rfl, ?_⟩
    repeat (first | refine uM ?_ | refine uR ?_ | refine uE ?_ | refine uB ?_ | refine uA ?_ | refine uD ?_ | refine jC ?_ | refine jN ?_ | refine jS ?_ | refine jR ?_ | refine jT ?_ | refine jB ?_ | refine jX rfl ?_ | refine jY rfl ?_ | refine jK ?_ | refine jD ?_ | refine jE ?_)
    have hgD : ¬ ((g = bl k true ∧ 0 < capV (pv k true)) ∨ (g = bl k false ∧ 0 < capV (pv k false))) := by
      rintro (⟨e, e0⟩ | ⟨e, e0⟩)
      · exact hgn e0 e.symm
      · exact hgk e0 e.symm
    have hmz : MutN wz g 0 (cap' * 7) := hm3.exc hhi3 hz hgD
    have hle3 := hTB.le
    refine ⟨by have := hmz.sub (k := k * 7 + 5) (m := 1) (by omega); rwa [← Nat.add_assoc] at this, trivial, rfl, by simp [Value.oneCell'], ?_⟩
    repeat (first | refine uM ?_ | refine uR ?_ | refine uE ?_ | refine uB ?_ | refine uA ?_ | refine uD ?_ | refine jC ?_ | refine jN ?_ | refine jS ?_ | refine jR ?_ | refine jT ?_ | refine jB ?_ | refine jX rfl ?_ | refine jY rfl ?_ | refine jK ?_ | refine jD ?_ | refine jE ?_)
    have hmz1 : MutN (setL wz g (0 + k * 7 + 5) [.slice ad1 (n.names.length - 1) cap1]) g 0 (cap' * 7) := MutN.setL _ _ _ hmz
    refine Ix.mk k rfl hk ?_
    repeat (first | refine uM ?_ | refine uR ?_ | refine uE ?_ | refine uB ?_ | refine uA ?_ | refine uD ?_ | refine jC ?_ | refine jN ?_ | refine jS ?_ | refine jR ?_ | refine jT ?_ | refine jB ?_ | refine jX rfl ?_ | refine jY rfl ?_ | refine jK ?_ | refine jD ?_ | refine jE ?_)
    refine ⟨by have := hmz1.sub (k := k * 7 + 6) (m := 1) (by omega); rwa [← Nat.add_assoc] at this, trivial, rfl, by simp [Value.oneCell'], ?_⟩
    have hXg : ExcP (fun j => j = g) wz (setL (setL wz g (0 + k * 7 + 5) [.slice ad1 (n.names.length - 1) cap1]) g (0 + k * 7 + 6) [.slice ad2 (n.kids.length - 1) cap2]) := ((ExcP.refl (fun j => j = g) wz).setL (S := fun j => j = g) rfl _ _).setL (S := fun j => j = g) rfl _ _
    have hcz : CellsAt (setL (setL wz g (0 + k * 7 + 5) [.slice ad1 (n.names.length - 1) cap1]) g (0 + k * 7 + 6) [.slice ad2 (n.kids.length - 1) cap2]) g (0 + k * 7) (((n.cells (pv k true) (pv k false)).set 5 (.slice ad1 (n.names.length - 1) cap1)).set 6 (.slice ad2 (n.kids.length - 1) cap2)) :=
      ((hcD wz hz).setAt (by have := hmz.sub (k := k * 7 + 5) (m := 1) (by omega); rwa [← Nat.add_assoc] at this) (by simp)).setAt (by have := hmz1.sub (k := k * 7 + 6) (m := 1) (by omega); rwa [← Nat.add_assoc] at this) (by simp)
    have hco : ∀ i m, i ≠ k → ts[i]? = some m → CellsAt (setL (setL wz g (0 + k * 7 + 5) [.slice ad1 (n.names.length - 1) cap1]) g (0 + k * 7 + 6) [.slice ad2 (n.kids.length - 1) cap2]) g (i * 7) (m.cells (pv i true) (pv i false)) := fun i m hik hm' => by
      have e : (m.cells (pv i true) (pv i false)).length = 7 := rfl
      exact (((hcs3 i m hm').exc hhi3 hz hgD).setL_out (.inr (by rw [e]; simp only [List.length_cons, List.length_nil]; omega))).setL_out (.inr (by rw [e]; simp only [List.length_cons, List.length_nil]; omega))
    have hmf : MutN (setL (setL wz g (0 + k * 7 + 5) [.slice ad1 (n.names.length - 1) cap1]) g (0 + k * 7 + 6) [.slice ad2 (n.kids.length - 1) cap2]) g 0 (cap' * 7) := MutN.setL _ _ _ hmz1
    have hl1 : (n.del p).names.length = n.names.length - 1 := by show (n.names.eraseIdx p).length = _; rw [List.length_eraseIdx, if_pos hpl]
    have hl2 : (n.del p).kids.length = n.kids.length - 1 := by show (n.kids.eraseIdx p).length = _; rw [List.length_eraseIdx, if_pos (by omega)]
    have hTBd := hTB.same (n' := n.del p) (v1 := .slice ad1 (n.names.length - 1) cap1) (v2 := .slice ad2 (n.kids.length - 1) cap2) hn (Nat.le_refl _) ((hz.mono fun j e => e.elim (fun e => .inl e) fun e => .inr (.inl e)).trans (hXg.mono fun j e => .inr (.inr e))) hmf (CellsAt.off hcz (Nat.zero_add _)) hco
      (by rw [hl1]; exact hBnz.exc hXg (fun _ e => hgn hcap1 e) (by have := hXk.size; omega) (Nat.le_refl _)) (by rw [hl2]; exact hBk.exc hXg (fun _ e => hgk hcap2 e) (by have := hXk.size; omega) (Nat.le_refl _)) hcap1 hcap2
    have hXd : ExcP (fun j => wa.heap.size ≤ j) wb (setL (setL wz g (0 + k * 7 + 5) [.slice ad1 (n.names.length - 1) cap1]) g (0 + k * 7 + 6) [.slice ad2 (n.kids.length - 1) cap2]) := (hz.mono fun j e => by rcases e with ⟨e, _⟩ | ⟨e, _⟩ <;> omega).trans (hXg.mono fun j e => by omega)
    repeat (first | refine uM ?_ | refine uR ?_ | refine uE ?_ | refine uB ?_ | refine uA ?_ | refine uD ?_)
    refine WpC.now (fun ws hxs _ => ?_)
    have hTBs := hTBd.ext (hi' := ws.heap.size) hxs (by have := hXd.size; have := hxs.size; omega)
    obtain ⟨q, hq, hq1, hq2, hq3⟩ : ∃ q, (ts.set k (n.del p))[a]? = some q ∧ q.names.length = q.kids.length ∧ q.names.length ≤ 8388608 ∧ Asc q.names := by
      by_cases e : a = k
      · subst e
        exact ⟨n.del p, by rw [List.getElem?_set_self hk], by rw [hl1, hl2]; omega, by rw [hl1]; omega, hok.asc'.erase p⟩
      · exact ⟨na, by rw [List.getElem?_set_ne (Ne.symm e)]; exact hna, hoka.len, (hA.sized.at hna).1, hoka.asc'⟩
    rw [hq]
    have hsz5 := hxs.size
    have hXdz := hXd.size
    repeat (first | refine jC ?_ | refine jN ?_ | refine jS ?_ | refine jR ?_ | refine jT ?_ | refine jB ?_ | refine jX rfl ?_ | refine jY rfl ?_ | refine jK ?_ | refine jD ?_ | refine jE ?_)
    refine Ix.mk a rfl ha ?_
    repeat (first | refine jC ?_ | refine jN ?_ | refine jS ?_ | refine jR ?_ | refine jT ?_ | refine jB ?_ | refine jX rfl ?_ | refine jY rfl ?_ | refine jK ?_ | refine jD ?_ | refine jE ?_)
    refine CallV.turn _ (fun w' hw _ => addName_at (Nat.zero_add _) (hTBs.ext hw hw.size) (Nat.le_refl _) (by have := hw.size; omega) x2.2 (j : Int) hq hq1 hq2 hq3) (fun u wc wd hxa hΦ => ?_)
    obtain ⟨⟨bl4, pv4, hTB4⟩, hX4⟩ := hΦ
    repeat (first | refine jC ?_ | refine jN ?_ | refine jS ?_ | refine jR ?_ | refine jT ?_ | refine jB ?_ | refine jX rfl ?_ | refine jY rfl ?_ | refine jK ?_ | refine jD ?_ | refine jE ?_)
    have hw0 := hx0.size
    have hxws : Vc.Ext w ws := (((hx0.trans hx1).trans hx2).trans' (hXd.below (by omega) fun j hj e => by omega)).trans hxs
    refine EndV.tree (p := ((ts.set k (n.del p)).set a (q.put x2.2 (j : Int)), 0)) ((hxws.trans hxa).trans' (hX4.below (by have := hxws.size; have := hxa.size; omega) fun j hj e => by omega)) ?_
    exact ⟨_, _, _, _, _, by simp, hTB4.low (by omega)⟩
theorem sMoveName_vc (ts : List Nd) (v : Value) (c : Cr) (s s2 : ByteArray) (w : World) (hA : Ask w v ts s) (hA2 : Ask w v ts s2) : Turns 23 #[v, c.v, .string s, .string s2] w (moveF (abvF ts c s) (abvF ts c s2) ts c) := by
  have hD := fun w' (hw : Vc.Ext w w') => sMayDrop_vc ts v c s w' (hA.ext hw)
  have hP := fun w' (hw : Vc.Ext w w') => sPlaceFor_vc ts v c s2 w' (hA2.ext hw)
  obtain ⟨hr1, hr2⟩ := drop_rel ts c s
  unfold Turns
  refine calls_of cx_ok Tryz.func23 Tryz.ntmps23 Tryz.results23 rfl rfl ?_
  repeat (first | refine jC ?_ | refine jN ?_ | refine jS ?_ | refine jR ?_ | refine jT ?_ | refine jB ?_ | refine jX rfl ?_ | refine jY rfl ?_ | refine jK ?_ | refine jD ?_ | refine jE ?_)
  intro b hb
  repeat (first | refine jC ?_ | refine jN ?_)
  refine WpC.plain (fun w0 hx0 hO => ?_)
  have hcb : CellsAt w0 b 0 [.int .i64 c.real, .int .i64 c.acts, .int .i64 c.saved, .int .i64 c.groups] := CellsAt.of_block hO.blk0 fun i v hi => by simpa using hi
  repeat (first | refine jC ?_ | refine jN ?_ | refine jS ?_ | refine jR ?_ | refine jT ?_ | refine jB ?_ | refine jX rfl ?_ | refine jY rfl ?_ | refine jK ?_ | refine jD ?_ | refine jE ?_)
  refine LdN.mk hcb rfl ?_
  repeat (first | refine jC ?_ | refine jN ?_ | refine jS ?_ | refine jR ?_ | refine jT ?_ | refine jB ?_ | refine jX rfl ?_ | refine jY rfl ?_ | refine jK ?_ | refine jD ?_ | refine jE ?_)
  refine CallV.val (fun w' hw _ => hD w' (hx0.trans hw)) ?_
  rcases drop_cases ts c s true with h0 | ⟨k, j, n, m, x, h0, hab, hfi, hav, hn, hk, hT, hok, hkid, hmj, hj1, hnp, hkp⟩
  · obtain ⟨e, h7⟩ := hr1 h0
    rw [moveF, if_pos h0, e]
    repeat (first | refine jC ?_ | refine jN ?_ | refine jS ?_ | refine jR ?_ | refine jT ?_ | refine jB ?_ | refine jX rfl ?_ | refine jY rfl ?_ | refine jK ?_ | refine jD ?_ | refine jE ?_)
    refine Br.yes (by simpa using h0) ?_
    repeat (first | refine jC ?_ | refine jN ?_ | refine jS ?_ | refine jR ?_ | refine jT ?_ | refine jB ?_ | refine jX rfl ?_ | refine jY rfl ?_ | refine jK ?_ | refine jD ?_ | refine jE ?_)
    refine Br.yes (by simpa using h7) ?_
    repeat (first | refine jC ?_ | refine jN ?_ | refine jS ?_ | refine jR ?_ | refine jT ?_ | refine jB ?_ | refine jX rfl ?_ | refine jY rfl ?_ | refine jK ?_ | refine jD ?_ | refine jE ?_)
    refine Made.mk fun g9 w9 hx9 _ _ _ _ => ?_
    repeat (first | refine jC ?_ | refine jN ?_ | refine jS ?_ | refine jR ?_ | refine jT ?_ | refine jB ?_ | refine jX rfl ?_ | refine jY rfl ?_ | refine jK ?_ | refine jD ?_ | refine jE ?_)
    exact EndV.tree (p := ([], dropF (abvF ts c s) ts c true)) (hx0.trans hx9) (TreeB.empty _ _ _ _ _)
  obtain ⟨ad, cap, rfl, hat⟩ := hA.tree.node
  obtain ⟨nb, no, nv, kv, rfl, hcn, hN⟩ := hat k n hn
  obtain ⟨_, _, jv, jw, ej, hcj, _⟩ := hat j m hmj
  cases ej
  have hj := (List.getElem?_eq_some_iff.1 hmj).1
  rcases hr2 h0 with e | e
  · rw [e]
    repeat (first | refine jC ?_ | refine jN ?_ | refine jS ?_ | refine jR ?_ | refine jT ?_ | refine jB ?_ | refine jX rfl ?_ | refine jY rfl ?_ | refine jK ?_ | refine jD ?_ | refine jE ?_)
    refine LdN.mk hcb rfl ?_
    repeat (first | refine jC ?_ | refine jN ?_ | refine jS ?_ | refine jR ?_ | refine jT ?_ | refine jB ?_ | refine jX rfl ?_ | refine jY rfl ?_ | refine jK ?_ | refine jD ?_ | refine jE ?_)
    refine CallV.val (fun w' hw _ => hP w' (hx0.trans hw)) ?_
    rcases place_cases ts c s2 with ⟨f, he2, h1, h5⟩ | ⟨a, na, x2, hab2, hav2, he2, hna, ha, _, hoka⟩
    · have e : moveF (abvF ts c s) (abvF ts c s2) ts c = ([], f) := by rw [moveF, if_neg (by simp [h0]), he2]; simp only; rw [if_pos (by omega)]
      rw [e, he2]
      repeat (first | refine jC ?_ | refine jN ?_ | refine jS ?_ | refine jR ?_ | refine jT ?_ | refine jB ?_ | refine jX rfl ?_ | refine jY rfl ?_ | refine jK ?_ | refine jD ?_ | refine jE ?_)
      refine Br.yes (by simp; omega) ?_
      repeat (first | refine jC ?_ | refine jN ?_ | refine jS ?_ | refine jR ?_ | refine jT ?_ | refine jB ?_ | refine jX rfl ?_ | refine jY rfl ?_ | refine jK ?_ | refine jD ?_ | refine jE ?_)
      refine Made.mk fun g9 w9 hx9 _ _ _ _ => ?_
      repeat (first | refine jC ?_ | refine jN ?_ | refine jS ?_ | refine jR ?_ | refine jT ?_ | refine jB ?_ | refine jX rfl ?_ | refine jY rfl ?_ | refine jK ?_ | refine jD ?_ | refine jE ?_)
      exact EndV.tree (p := ([], f)) (hx0.trans hx9) (TreeB.empty _ _ _ _ _)
    have hmv : moveF (abvF ts c s) (abvF ts c s2) ts c = if (m.folder && !decide ((a : Int) = (k : Int))) = true then (([], 4) : List Nd × Int) else match (ts.set k (n.del (posN n.names x.2)))[a]? with
        | none => ([], 0)
        | some q => ((ts.set k (n.del (posN n.names x.2))).set a (q.put x2.2 (j : Int)), 0) := by
      rw [moveF, if_neg (by simp [h0]), he2, if_neg (by simp), hav, hav2]
      simp only [Int.toNat_natCast, hn, hkid, hmj]
    have hv : aboveV s = .tuple #[.string x.1, .string x.2, .bool true] := by rw [aboveV, hab]
    have hv2 : aboveV s2 = .tuple #[.string x2.1, .string x2.2, .bool true] := by rw [aboveV, hab2]
    have hF := fun w' (hw : Vc.Ext w w') => sFindNode_vc ts _ c x.1 w' ((hA.of (by have := (above_size hab).1; omega)).ext hw)
    rw [hmv, he2]
    rw [hfi] at hF
    repeat (first | refine jC ?_ | refine jN ?_ | refine jS ?_ | refine jR ?_ | refine jT ?_ | refine jB ?_ | refine jX rfl ?_ | refine jY rfl ?_ | refine jK ?_ | refine jD ?_ | refine jE ?_)
    refine CallV.val (fun w' hw _ => hv ▸ sAboveOf_vc s w' hA.size) ?_
    repeat (first | refine jC ?_ | refine jN ?_ | refine jS ?_ | refine jR ?_ | refine jT ?_ | refine jB ?_ | refine jX rfl ?_ | refine jY rfl ?_ | refine jK ?_ | refine jD ?_ | refine jE ?_)
    refine CallV.val (fun w' hw _ => hv2 ▸ sAboveOf_vc s2 w' hA2.size) ?_
    repeat (first | refine jC ?_ | refine jN ?_ | refine jS ?_ | refine jR ?_ | refine jT ?_ | refine jB ?_ | refine jX rfl ?_ | refine jY rfl ?_ | refine jK ?_ | refine jD ?_ | refine jE ?_)
    refine LdN.mk hcb rfl ?_
    repeat (first | refine jC ?_ | refine jN ?_ | refine jS ?_ | refine jR ?_ | refine jT ?_ | refine jB ?_ | refine jX rfl ?_ | refine jY rfl ?_ | refine jK ?_ | refine jD ?_ | refine jE ?_)
    refine CallV.val (fun w' hw _ => hF w' (hx0.trans hw)) ?_
    repeat (first | refine jC ?_ | refine jN ?_ | refine jS ?_ | refine jR ?_ | refine jT ?_ | refine jB ?_ | refine jX rfl ?_ | refine jY rfl ?_ | refine jK ?_ | refine jD ?_ | refine jE ?_)
    refine Ix.mk k rfl hk ?_
    repeat (first | refine jC ?_ | refine jN ?_ | refine jS ?_ | refine jR ?_ | refine jT ?_ | refine jB ?_ | refine jX rfl ?_ | refine jY rfl ?_ | refine jK ?_ | refine jD ?_ | refine jE ?_)
    refine LdN.mk (hcn.ext hx0) rfl ?_
    repeat (first | refine jC ?_ | refine jN ?_ | refine jS ?_ | refine jR ?_ | refine jT ?_ | refine jB ?_ | refine jX rfl ?_ | refine jY rfl ?_ | refine jK ?_ | refine jD ?_ | refine jE ?_)
    refine CallV.val (fun w' hw _ => sKid_vc n nv kv x.2 w' (hN.ext (hx0.trans hw)) (hA.sized.at hn).1 hok.len) ?_
    rw [hkid]
    repeat (first | refine jC ?_ | refine jN ?_ | refine jS ?_ | refine jR ?_ | refine jT ?_ | refine jB ?_ | refine jX rfl ?_ | refine jY rfl ?_ | refine jK ?_ | refine jD ?_ | refine jE ?_)
    refine Ix.mk j rfl hj ?_
    repeat (first | refine jC ?_ | refine jN ?_ | refine jS ?_ | refine jR ?_ | refine jT ?_ | refine jB ?_ | refine jX rfl ?_ | refine jY rfl ?_ | refine jK ?_ | refine jD ?_ | refine jE ?_)
    refine Ld.mk ((hcj.ext hx0).out 0 _ rfl) ?_
    repeat (first | refine jC ?_ | refine jN ?_ | refine jS ?_ | refine jR ?_ | refine jT ?_ | refine jB ?_ | refine jX rfl ?_ | refine jY rfl ?_ | refine jK ?_ | refine jD ?_ | refine jE ?_)
    refine Br.intro (fun hf => ?_) (fun hf => ?_)
    · repeat (first | refine jC ?_ | refine jN ?_ | refine jS ?_ | refine jR ?_ | refine jT ?_ | refine jB ?_ | refine jX rfl ?_ | refine jY rfl ?_ | refine jK ?_ | refine jD ?_ | refine jE ?_)
      refine Br.intro (fun hf2 => ?_) (fun hf2 => ?_)
      · have hf3 : decide ((a : Int) = (k : Int)) = false := by
          rw [decide_eq_false_iff_not]
          intro e
          rw [e] at hf2
          simp at hf2
        rw [if_pos (by rw [hf, hf3]; rfl)]
        repeat (first | refine jC ?_ | refine jN ?_ | refine jS ?_ | refine jR ?_ | refine jT ?_ | refine jB ?_ | refine jX rfl ?_ | refine jY rfl ?_ | refine jK ?_ | refine jD ?_ | refine jE ?_)
        refine Made.mk fun g9 w9 hx9 _ _ _ _ => ?_
        repeat (first | refine jC ?_ | refine jN ?_ | refine jS ?_ | refine jR ?_ | refine jT ?_ | refine jB ?_ | refine jX rfl ?_ | refine jY rfl ?_ | refine jK ?_ | refine jD ?_ | refine jE ?_)
        exact EndV.tree (p := ([], 4)) (hx0.trans hx9) (TreeB.empty _ _ _ _ _)
      · have hf3 : decide ((a : Int) = (k : Int)) = true := by
          rw [decide_eq_true_iff]
          rw [Bool.not_eq_false'] at hf2
          exact (of_decide_eq_true hf2).symm
        rw [if_neg (by rw [hf, hf3]; simp)]
        repeat (first | refine jC ?_ | refine jN ?_ | refine jS ?_ | refine jR ?_ | refine jT ?_ | refine jB ?_ | refine jX rfl ?_ | refine jY rfl ?_ | refine jK ?_ | refine jD ?_ | refine jE ?_)
        refine CallV.mem _ (fun w' hw _ => sCopy_vc ts _ w' (hA.tree.ext (hx0.trans hw)) hA.sized) (fun x3 wa wb hx1 hx2 hO hB => ?_)
        obtain ⟨ad', cap', g, bl, pv, rfl, hTB⟩ := hB
        have hlow : w0.heap.size ≤ wa.heap.size := hx1.size
        have hlo2 := hx2.size
        obtain ⟨rfl, hlo3, hhi3, hm3, hcs3⟩ := hTB.open_ hk
        have hpl : posN n.names x.2 < n.names.length := (List.getElem?_eq_some_iff.1 hnp).1
        have hsl := hA.sized.at hn
        have hlen := hok.len
        repeat (first | refine jC ?_ | refine jN ?_ | refine jS ?_ | refine jR ?_ | refine jT ?_ | refine jB ?_ | refine jX rfl ?_ | refine jY rfl ?_ | refine jK ?_ | refine jD ?_ | refine jE ?_)
        refine Ix.mk k rfl hk ?_
        repeat (first | refine jC ?_ | refine jN ?_ | refine jS ?_ | refine jR ?_ | refine jT ?_ | refine jB ?_ | refine jX rfl ?_ | refine jY rfl ?_ | refine jK ?_ | refine jD ?_ | refine jE ?_)
        refine LdN.mk (by rw [Nat.zero_add]; exact hcs3 k n hn) rfl ?_
        repeat (first | refine jC ?_ | refine jN ?_ | refine jS ?_ | refine jR ?_ | refine jT ?_ | refine jB ?_ | refine jX rfl ?_ | refine jY rfl ?_ | refine jK ?_ | refine jD ?_ | refine jE ?_)
        refine CallV.mem _ (fun w' hw _ => sTake_vc n _ _ x.2 (posN n.names x.2) w' ((hTB.ndIn hn).ext hw) hok.len hsl.1 hpl hnp (fun j h => posN_eq hok.asc' h)) (fun x5 wc wd hx3 hx4 hO hP2 => ?_)
        generalize posN n.names x.2 = p at hnp hkp hpl hP2 ⊢
        obtain ⟨v1, v2, g1, g2, rfl, hB1, hB2, hne⟩ := hP2
        have hs3 := hx3.size
        have hs4 := hx4.size
        have hTBd := hTB.ext (hx3.trans hx4) (Nat.le_refl _)
        have hmd := (hm3.ext (hx3.trans hx4))
        have hle3 := hTB.le
        have hTBs := hTBd.setN (n' := n.del p) hn (by omega) (hB1.low hs3) (hB2.low hs3) hne
        obtain ⟨ad1, cap1, rfl, _⟩ := id hB1
        obtain ⟨ad2, cap2, rfl, _⟩ := id hB2
        repeat (first | refine jC ?_ | refine jN ?_ | refine jS ?_ | refine jR ?_ | refine jT ?_ | refine jB ?_ | refine jX rfl ?_ | refine jY rfl ?_ | refine jK ?_ | refine jD ?_ | refine jE ?_)
        refine Ix.mk k rfl hk ?_
        repeat (first | refine jC ?_ | refine jN ?_ | refine jS ?_ | refine jR ?_ | refine jT ?_ | refine jB ?_ | refine jX rfl ?_ | refine jY rfl ?_ | refine jK ?_ | refine jD ?_ | refine jE ?_)
        refine ⟨by have := hmd.sub (k := k * 7) (m := 7) (by omega); exact this, trivial, rfl, by simp [Value.oneCell'], ?_⟩
        repeat (first | refine jC ?_ | refine jN ?_)
        refine WpC.now (fun ws hxw _ => ?_)
        have hTBw := hTBs.ext hxw hxw.size
        have hxs : Vc.Ext w0 ws := ((((hx1.trans hx2).trans hx3).trans hx4).trans' (below_setL (Below.refl _ _) (by omega) _ _)).trans hxw
        have hl1 : (n.del p).names.length = n.names.length - 1 := by show (n.names.eraseIdx p).length = _; rw [List.length_eraseIdx, if_pos hpl]
        have hl2 : (n.del p).kids.length = n.kids.length - 1 := by show (n.kids.eraseIdx p).length = _; rw [List.length_eraseIdx, if_pos (by omega)]
        obtain ⟨q, hq, hq1, hq2⟩ : ∃ q, (ts.set k (n.del p))[a]? = some q ∧ q.names.length = q.kids.length ∧ q.names.length ≤ 8388608 := by
          by_cases e : a = k
          · subst e
            exact ⟨n.del p, by rw [List.getElem?_set_self hk], by rw [hl1, hl2]; omega, by rw [hl1]; omega⟩
          · exact ⟨na, by rw [List.getElem?_set_ne (Ne.symm e)]; exact hna, hoka.len, (hA.sized.at hna).1⟩
        rw [hq]
        obtain ⟨_, hlo6, hhi6, hm6, hcs6⟩ := hTBw.open_ (k := a) (by simpa using ha)
        have hle6 := hTBw.le
        rw [List.length_set] at hle6
        repeat (first | refine jC ?_ | refine jN ?_ | refine jS ?_ | refine jR ?_ | refine jT ?_ | refine jB ?_ | refine jX rfl ?_ | refine jY rfl ?_ | refine jK ?_ | refine jD ?_ | refine jE ?_)
        refine Ix.mk a rfl ha ?_
        repeat (first | refine jC ?_ | refine jN ?_ | refine jS ?_ | refine jR ?_ | refine jT ?_ | refine jB ?_ | refine jX rfl ?_ | refine jY rfl ?_ | refine jK ?_ | refine jD ?_ | refine jE ?_)
        refine LdN.mk (by rw [Nat.zero_add]; exact hcs6 a q hq) rfl ?_
        repeat (first | refine jC ?_ | refine jN ?_ | refine jS ?_ | refine jR ?_ | refine jT ?_ | refine jB ?_ | refine jX rfl ?_ | refine jY rfl ?_ | refine jK ?_ | refine jD ?_ | refine jE ?_)
        refine CallV.mem _ (fun w' hw _ => sPut_vc q _ _ x2.2 (j : Int) w' ((hTBw.ndIn hq).ext hw) hq1 hq2) (fun x6 we wf hx5 hx6 hO hP3 => ?_)
        obtain ⟨v3, v4, g3, g4, rfl, hB3, hB4, hne2⟩ := hP3
        have hs5 := hx5.size
        have hs6 := hx6.size
        have hTBf := hTBw.ext (hx5.trans hx6) (Nat.le_refl _)
        have hmf := (hm6.ext (hx5.trans hx6))
        have hTBz := hTBf.setN (n' := q.put x2.2 (j : Int)) hq (by omega) (hB3.low hs5) (hB4.low hs5) (fun _ _ => hne2)
        obtain ⟨ad3, cap3, rfl, _⟩ := id hB3
        obtain ⟨ad4, cap4, rfl, _⟩ := id hB4
        repeat (first | refine jC ?_ | refine jN ?_ | refine jS ?_ | refine jR ?_ | refine jT ?_ | refine jB ?_ | refine jX rfl ?_ | refine jY rfl ?_ | refine jK ?_ | refine jD ?_ | refine jE ?_)
        refine Ix.mk a rfl ha ?_
        repeat (first | refine jC ?_ | refine jN ?_ | refine jS ?_ | refine jR ?_ | refine jT ?_ | refine jB ?_ | refine jX rfl ?_ | refine jY rfl ?_ | refine jK ?_ | refine jD ?_ | refine jE ?_)
        refine ⟨by have := hmf.sub (k := a * 7) (m := 7) (by omega); exact this, trivial, rfl, by simp [Value.oneCell'], ?_⟩
        repeat (first | refine jC ?_ | refine jN ?_)
        refine WpC.now (fun wz hxz _ => ?_)
        have hTBy := hTBz.ext hxz hxz.size
        have hxsz := hxs.size
        have hw0 := hx0.size
        have hxe : Vc.Ext w0 wz := ((hxs.trans (hx5.trans hx6)).trans' (below_setL (Below.refl _ _) (by omega) _ _)).trans hxz
        repeat (first | refine jC ?_ | refine jN ?_ | refine jS ?_ | refine jR ?_ | refine jT ?_ | refine jB ?_ | refine jX rfl ?_ | refine jY rfl ?_ | refine jK ?_ | refine jD ?_ | refine jE ?_)
        exact EndV.tree (p := ((ts.set k (n.del p)).set a (q.put x2.2 (j : Int)), 0)) (hx0.trans hxe) (hTBy.fin (by omega) (Nat.le_refl _) (by simp))
    · rw [if_neg (by rw [hf]; simp)]
      repeat (first | refine jC ?_ | refine jN ?_ | refine jS ?_ | refine jR ?_ | refine jT ?_ | refine jB ?_ | refine jX rfl ?_ | refine jY rfl ?_ | refine jK ?_ | refine jD ?_ | refine jE ?_)
      refine CallV.mem _ (fun w' hw _ => sCopy_vc ts _ w' (hA.tree.ext (hx0.trans hw)) hA.sized) (fun x3 wa wb hx1 hx2 hO hB => ?_)
      obtain ⟨ad', cap', g, bl, pv, rfl, hTB⟩ := hB
      have hlow : w0.heap.size ≤ wa.heap.size := hx1.size
      have hlo2 := hx2.size
      obtain ⟨rfl, hlo3, hhi3, hm3, hcs3⟩ := hTB.open_ hk
      have hpl : posN n.names x.2 < n.names.length := (List.getElem?_eq_some_iff.1 hnp).1
      have hsl := hA.sized.at hn
      have hlen := hok.len
      repeat (first | refine jC ?_ | refine jN ?_ | refine jS ?_ | refine jR ?_ | refine jT ?_ | refine jB ?_ | refine jX rfl ?_ | refine jY rfl ?_ | refine jK ?_ | refine jD ?_ | refine jE ?_)
      refine Ix.mk k rfl hk ?_
      repeat (first | refine jC ?_ | refine jN ?_ | refine jS ?_ | refine jR ?_ | refine jT ?_ | refine jB ?_ | refine jX rfl ?_ | refine jY rfl ?_ | refine jK ?_ | refine jD ?_ | refine jE ?_)
      refine LdN.mk (by rw [Nat.zero_add]; exact hcs3 k n hn) rfl ?_
      repeat (first | refine jC ?_ | refine jN ?_ | refine jS ?_ | refine jR ?_ | refine jT ?_ | refine jB ?_ | refine jX rfl ?_ | refine jY rfl ?_ | refine jK ?_ | refine jD ?_ | refine jE ?_)
      refine CallV.mem _ (fun w' hw _ => sTake_vc n _ _ x.2 (posN n.names x.2) w' ((hTB.ndIn hn).ext hw) hok.len hsl.1 hpl hnp (fun j h => posN_eq hok.asc' h)) (fun x5 wc wd hx3 hx4 hO hP2 => ?_)
      generalize posN n.names x.2 = p at hnp hkp hpl hP2 ⊢
      obtain ⟨v1, v2, g1, g2, rfl, hB1, hB2, hne⟩ := hP2
      have hs3 := hx3.size
      have hs4 := hx4.size
      have hTBd := hTB.ext (hx3.trans hx4) (Nat.le_refl _)
      have hmd := (hm3.ext (hx3.trans hx4))
      have hle3 := hTB.le
      have hTBs := hTBd.setN (n' := n.del p) hn (by omega) (hB1.low hs3) (hB2.low hs3) hne
      obtain ⟨ad1, cap1, rfl, _⟩ := id hB1
      obtain ⟨ad2, cap2, rfl, _⟩ := id hB2
      repeat (first | refine jC ?_ | refine jN ?_ | refine jS ?_ | refine jR ?_ | refine jT ?_ | refine jB ?_ | refine jX rfl ?_ | refine jY rfl ?_ | refine jK ?_ | refine jD ?_ | refine jE ?_)
      refine Ix.mk k rfl hk ?_
      repeat (first | refine jC ?_ | refine jN ?_ | refine jS ?_ | refine jR ?_ | refine jT ?_ | refine jB ?_ | refine jX rfl ?_ | refine jY rfl ?_ | refine jK ?_ | refine jD ?_ | refine jE ?_)
      refine ⟨by have := hmd.sub (k := k * 7) (m := 7) (by omega); exact this, trivial, rfl, by simp [Value.oneCell'], ?_⟩
      repeat (first | refine jC ?_ | refine jN ?_)
      refine WpC.now (fun ws hxw _ => ?_)
      have hTBw := hTBs.ext hxw hxw.size
      have hxs : Vc.Ext w0 ws := ((((hx1.trans hx2).trans hx3).trans hx4).trans' (below_setL (Below.refl _ _) (by omega) _ _)).trans hxw
      have hl1 : (n.del p).names.length = n.names.length - 1 := by show (n.names.eraseIdx p).length = _; rw [List.length_eraseIdx, if_pos hpl]
      have hl2 : (n.del p).kids.length = n.kids.length - 1 := by show (n.kids.eraseIdx p).length = _; rw [List.length_eraseIdx, if_pos (by omega)]
      obtain ⟨q, hq, hq1, hq2⟩ : ∃ q, (ts.set k (n.del p))[a]? = some q ∧ q.names.length = q.kids.length ∧ q.names.length ≤ 8388608 := by
        by_cases e : a = k
        · subst e
          exact ⟨n.del p, by rw [List.getElem?_set_self hk], by rw [hl1, hl2]; omega, by rw [hl1]; omega⟩
        · exact ⟨na, by rw [List.getElem?_set_ne (Ne.symm e)]; exact hna, hoka.len, (hA.sized.at hna).1⟩
      rw [hq]
      obtain ⟨_, hlo6, hhi6, hm6, hcs6⟩ := hTBw.open_ (k := a) (by simpa using ha)
      have hle6 := hTBw.le
      rw [List.length_set] at hle6
      repeat (first | refine jC ?_ | refine jN ?_ | refine jS ?_ | refine jR ?_ | refine jT ?_ | refine jB ?_ | refine jX rfl ?_ | refine jY rfl ?_ | refine jK ?_ | refine jD ?_ | refine jE ?_)
      refine Ix.mk a rfl ha ?_
      repeat (first | refine jC ?_ | refine jN ?_ | refine jS ?_ | refine jR ?_ | refine jT ?_ | refine jB ?_ | refine jX rfl ?_ | refine jY rfl ?_ | refine jK ?_ | refine jD ?_ | refine jE ?_)
      refine LdN.mk (by rw [Nat.zero_add]; exact hcs6 a q hq) rfl ?_
      repeat (first | refine jC ?_ | refine jN ?_ | refine jS ?_ | refine jR ?_ | refine jT ?_ | refine jB ?_ | refine jX rfl ?_ | refine jY rfl ?_ | refine jK ?_ | refine jD ?_ | refine jE ?_)
      refine CallV.mem _ (fun w' hw _ => sPut_vc q _ _ x2.2 (j : Int) w' ((hTBw.ndIn hq).ext hw) hq1 hq2) (fun x6 we wf hx5 hx6 hO hP3 => ?_)
      obtain ⟨v3, v4, g3, g4, rfl, hB3, hB4, hne2⟩ := hP3
      have hs5 := hx5.size
      have hs6 := hx6.size
      have hTBf := hTBw.ext (hx5.trans hx6) (Nat.le_refl _)
      have hmf := (hm6.ext (hx5.trans hx6))
      have hTBz := hTBf.setN (n' := q.put x2.2 (j : Int)) hq (by omega) (hB3.low hs5) (hB4.low hs5) (fun _ _ => hne2)
      obtain ⟨ad3, cap3, rfl, _⟩ := id hB3
      obtain ⟨ad4, cap4, rfl, _⟩ := id hB4
      repeat (first | refine jC ?_ | refine jN ?_ | refine jS ?_ | refine jR ?_ | refine jT ?_ | refine jB ?_ | refine jX rfl ?_ | refine jY rfl ?_ | refine jK ?_ | refine jD ?_ | refine jE ?_)
      refine Ix.mk a rfl ha ?_
      repeat (first | refine jC ?_ | refine jN ?_ | refine jS ?_ | refine jR ?_ | refine jT ?_ | refine jB ?_ | refine jX rfl ?_ | refine jY rfl ?_ | refine jK ?_ | refine jD ?_ | refine jE ?_)
      refine ⟨by have := hmf.sub (k := a * 7) (m := 7) (by omega); exact this, trivial, rfl, by simp [Value.oneCell'], ?_⟩
      repeat (first | refine jC ?_ | refine jN ?_)
      refine WpC.now (fun wz hxz _ => ?_)
      have hTBy := hTBz.ext hxz hxz.size
      have hxsz := hxs.size
      have hw0 := hx0.size
      have hxe : Vc.Ext w0 wz := ((hxs.trans (hx5.trans hx6)).trans' (below_setL (Below.refl _ _) (by omega) _ _)).trans hxz
      repeat (first | refine jC ?_ | refine jN ?_ | refine jS ?_ | refine jR ?_ | refine jT ?_ | refine jB ?_ | refine jX rfl ?_ | refine jY rfl ?_ | refine jK ?_ | refine jD ?_ | refine jE ?_)
      exact EndV.tree (p := ((ts.set k (n.del p)).set a (q.put x2.2 (j : Int)), 0)) (hx0.trans hxe) (hTBy.fin (by omega) (Nat.le_refl _) (by simp))
  · rw [e]
    repeat (first | refine jC ?_ | refine jN ?_ | refine jS ?_ | refine jR ?_ | refine jT ?_ | refine jB ?_ | refine jX rfl ?_ | refine jY rfl ?_ | refine jK ?_ | refine jD ?_ | refine jE ?_)
    refine LdN.mk hcb rfl ?_
    repeat (first | refine jC ?_ | refine jN ?_ | refine jS ?_ | refine jR ?_ | refine jT ?_ | refine jB ?_ | refine jX rfl ?_ | refine jY rfl ?_ | refine jK ?_ | refine jD ?_ | refine jE ?_)
    refine CallV.val (fun w' hw _ => hP w' (hx0.trans hw)) ?_
    rcases place_cases ts c s2 with ⟨f, he2, h1, h5⟩ | ⟨a, na, x2, hab2, hav2, he2, hna, ha, _, hoka⟩
    · have e : moveF (abvF ts c s) (abvF ts c s2) ts c = ([], f) := by rw [moveF, if_neg (by simp [h0]), he2]; simp only; rw [if_pos (by omega)]
      rw [e, he2]
      repeat (first | refine jC ?_ | refine jN ?_ | refine jS ?_ | refine jR ?_ | refine jT ?_ | refine jB ?_ | refine jX rfl ?_ | refine jY rfl ?_ | refine jK ?_ | refine jD ?_ | refine jE ?_)
      refine Br.yes (by simp; omega) ?_
      repeat (first | refine jC ?_ | refine jN ?_ | refine jS ?_ | refine jR ?_ | refine jT ?_ | refine jB ?_ | refine jX rfl ?_ | refine jY rfl ?_ | refine jK ?_ | refine jD ?_ | refine jE ?_)
      refine Made.mk fun g9 w9 hx9 _ _ _ _ => ?_
      repeat (first | refine jC ?_ | refine jN ?_ | refine jS ?_ | refine jR ?_ | refine jT ?_ | refine jB ?_ | refine jX rfl ?_ | refine jY rfl ?_ | refine jK ?_ | refine jD ?_ | refine jE ?_)
      exact EndV.tree (p := ([], f)) (hx0.trans hx9) (TreeB.empty _ _ _ _ _)
    have hmv : moveF (abvF ts c s) (abvF ts c s2) ts c = if (m.folder && !decide ((a : Int) = (k : Int))) = true then (([], 4) : List Nd × Int) else match (ts.set k (n.del (posN n.names x.2)))[a]? with
        | none => ([], 0)
        | some q => ((ts.set k (n.del (posN n.names x.2))).set a (q.put x2.2 (j : Int)), 0) := by
      rw [moveF, if_neg (by simp [h0]), he2, if_neg (by simp), hav, hav2]
      simp only [Int.toNat_natCast, hn, hkid, hmj]
    have hv : aboveV s = .tuple #[.string x.1, .string x.2, .bool true] := by rw [aboveV, hab]
    have hv2 : aboveV s2 = .tuple #[.string x2.1, .string x2.2, .bool true] := by rw [aboveV, hab2]
    have hF := fun w' (hw : Vc.Ext w w') => sFindNode_vc ts _ c x.1 w' ((hA.of (by have := (above_size hab).1; omega)).ext hw)
    rw [hmv, he2]
    rw [hfi] at hF
    repeat (first | refine jC ?_ | refine jN ?_ | refine jS ?_ | refine jR ?_ | refine jT ?_ | refine jB ?_ | refine jX rfl ?_ | refine jY rfl ?_ | refine jK ?_ | refine jD ?_ | refine jE ?_)
    refine CallV.val (fun w' hw _ => hv ▸ sAboveOf_vc s w' hA.size) ?_
    repeat (first | refine jC ?_ | refine jN ?_ | refine jS ?_ | refine jR ?_ | refine jT ?_ | refine jB ?_ | refine jX rfl ?_ | refine jY rfl ?_ | refine jK ?_ | refine jD ?_ | refine jE ?_)
    refine CallV.val (fun w' hw _ => hv2 ▸ sAboveOf_vc s2 w' hA2.size) ?_
    repeat (first | refine jC ?_ | refine jN ?_ | refine jS ?_ | refine jR ?_ | refine jT ?_ | refine jB ?_ | refine jX rfl ?_ | refine jY rfl ?_ | refine jK ?_ | refine jD ?_ | refine jE ?_)
    refine LdN.mk hcb rfl ?_
    repeat (first | refine jC ?_ | refine jN ?_ | refine jS ?_ | refine jR ?_ | refine jT ?_ | refine jB ?_ | refine jX rfl ?_ | refine jY rfl ?_ | refine jK ?_ | refine jD ?_ | refine jE ?_)
    refine CallV.val (fun w' hw _ => hF w' (hx0.trans hw)) ?_
    repeat (first | refine jC ?_ | refine jN ?_ | refine jS ?_ | refine jR ?_ | refine jT ?_ | refine jB ?_ | refine jX rfl ?_ | refine jY rfl ?_ | refine jK ?_ | refine jD ?_ | refine jE ?_)
    refine Ix.mk k rfl hk ?_
    repeat (first | refine jC ?_ | refine jN ?_ | refine jS ?_ | refine jR ?_ | refine jT ?_ | refine jB ?_ | refine jX rfl ?_ | refine jY rfl ?_ | refine jK ?_ | refine jD ?_ | refine jE ?_)
    refine LdN.mk (hcn.ext hx0) rfl ?_
    repeat (first | refine jC ?_ | refine jN ?_ | refine jS ?_ | refine jR ?_ | refine jT ?_ | refine jB ?_ | refine jX rfl ?_ | refine jY rfl ?_ | refine jK ?_ | refine jD ?_ | refine jE ?_)
    refine CallV.val (fun w' hw _ => sKid_vc n nv kv x.2 w' (hN.ext (hx0.trans hw)) (hA.sized.at hn).1 hok.len) ?_
    rw [hkid]
    repeat (first | refine jC ?_ | refine jN ?_ | refine jS ?_ | refine jR ?_ | refine jT ?_ | refine jB ?_ | refine jX rfl ?_ | refine jY rfl ?_ | refine jK ?_ | refine jD ?_ | refine jE ?_)
    refine Ix.mk j rfl hj ?_
    repeat (first | refine jC ?_ | refine jN ?_ | refine jS ?_ | refine jR ?_ | refine jT ?_ | refine jB ?_ | refine jX rfl ?_ | refine jY rfl ?_ | refine jK ?_ | refine jD ?_ | refine jE ?_)
    refine Ld.mk ((hcj.ext hx0).out 0 _ rfl) ?_
    repeat (first | refine jC ?_ | refine jN ?_ | refine jS ?_ | refine jR ?_ | refine jT ?_ | refine jB ?_ | refine jX rfl ?_ | refine jY rfl ?_ | refine jK ?_ | refine jD ?_ | refine jE ?_)
    refine Br.intro (fun hf => ?_) (fun hf => ?_)
    · repeat (first | refine jC ?_ | refine jN ?_ | refine jS ?_ | refine jR ?_ | refine jT ?_ | refine jB ?_ | refine jX rfl ?_ | refine jY rfl ?_ | refine jK ?_ | refine jD ?_ | refine jE ?_)
      refine Br.intro (fun hf2 => ?_) (fun hf2 => ?_)
      · have hf3 : decide ((a : Int) = (k : Int)) = false := by
          rw [decide_eq_false_iff_not]
          intro e
          rw [e] at hf2
          simp at hf2
        rw [if_pos (by rw [hf, hf3]; rfl)]
        repeat (first | refine jC ?_ | refine jN ?_ | refine jS ?_ | refine jR ?_ | refine jT ?_ | refine jB ?_ | refine jX rfl ?_ | refine jY rfl ?_ | refine jK ?_ | refine jD ?_ | refine jE ?_)
        refine Made.mk fun g9 w9 hx9 _ _ _ _ => ?_
        repeat (first | refine jC ?_ | refine jN ?_ | refine jS ?_ | refine jR ?_ | refine jT ?_ | refine jB ?_ | refine jX rfl ?_ | refine jY rfl ?_ | refine jK ?_ | refine jD ?_ | refine jE ?_)
        exact EndV.tree (p := ([], 4)) (hx0.trans hx9) (TreeB.empty _ _ _ _ _)
      · have hf3 : decide ((a : Int) = (k : Int)) = true := by
          rw [decide_eq_true_iff]
          rw [Bool.not_eq_false'] at hf2
          exact (of_decide_eq_true hf2).symm
        rw [if_neg (by rw [hf, hf3]; simp)]
        repeat (first | refine jC ?_ | refine jN ?_ | refine jS ?_ | refine jR ?_ | refine jT ?_ | refine jB ?_ | refine jX rfl ?_ | refine jY rfl ?_ | refine jK ?_ | refine jD ?_ | refine jE ?_)
        refine CallV.mem _ (fun w' hw _ => sCopy_vc ts _ w' (hA.tree.ext (hx0.trans hw)) hA.sized) (fun x3 wa wb hx1 hx2 hO hB => ?_)
        obtain ⟨ad', cap', g, bl, pv, rfl, hTB⟩ := hB
        have hlow : w0.heap.size ≤ wa.heap.size := hx1.size
        have hlo2 := hx2.size
        obtain ⟨rfl, hlo3, hhi3, hm3, hcs3⟩ := hTB.open_ hk
        have hpl : posN n.names x.2 < n.names.length := (List.getElem?_eq_some_iff.1 hnp).1
        have hsl := hA.sized.at hn
        have hlen := hok.len
        repeat (first | refine jC ?_ | refine jN ?_ | refine jS ?_ | refine jR ?_ | refine jT ?_ | refine jB ?_ | refine jX rfl ?_ | refine jY rfl ?_ | refine jK ?_ | refine jD ?_ | refine jE ?_)
        refine Ix.mk k rfl hk ?_
        repeat (first | refine jC ?_ | refine jN ?_ | refine jS ?_ | refine jR ?_ | refine jT ?_ | refine jB ?_ | refine jX rfl ?_ | refine jY rfl ?_ | refine jK ?_ | refine jD ?_ | refine jE ?_)
        refine LdN.mk (by rw [Nat.zero_add]; exact hcs3 k n hn) rfl ?_
        repeat (first | refine jC ?_ | refine jN ?_ | refine jS ?_ | refine jR ?_ | refine jT ?_ | refine jB ?_ | refine jX rfl ?_ | refine jY rfl ?_ | refine jK ?_ | refine jD ?_ | refine jE ?_)
        refine CallV.mem _ (fun w' hw _ => sTake_vc n _ _ x.2 (posN n.names x.2) w' ((hTB.ndIn hn).ext hw) hok.len hsl.1 hpl hnp (fun j h => posN_eq hok.asc' h)) (fun x5 wc wd hx3 hx4 hO hP2 => ?_)
        generalize posN n.names x.2 = p at hnp hkp hpl hP2 ⊢
        obtain ⟨v1, v2, g1, g2, rfl, hB1, hB2, hne⟩ := hP2
        have hs3 := hx3.size
        have hs4 := hx4.size
        have hTBd := hTB.ext (hx3.trans hx4) (Nat.le_refl _)
        have hmd := (hm3.ext (hx3.trans hx4))
        have hle3 := hTB.le
        have hTBs := hTBd.setN (n' := n.del p) hn (by omega) (hB1.low hs3) (hB2.low hs3) hne
        obtain ⟨ad1, cap1, rfl, _⟩ := id hB1
        obtain ⟨ad2, cap2, rfl, _⟩ := id hB2
        repeat (first | refine jC ?_ | refine jN ?_ | refine jS ?_ | refine jR ?_ | refine jT ?_ | refine jB ?_ | refine jX rfl ?_ | refine jY rfl ?_ | refine jK ?_ | refine jD ?_ | refine jE ?_)
        refine Ix.mk k rfl hk ?_
        repeat (first | refine jC ?_ | refine jN ?_ | refine jS ?_ | refine jR ?_ | refine jT ?_ | refine jB ?_ | refine jX rfl ?_ | refine jY rfl ?_ | refine jK ?_ | refine jD ?_ | refine jE ?_)
        refine ⟨by have := hmd.sub (k := k * 7) (m := 7) (by omega); exact this, trivial, rfl, by simp [Value.oneCell'], ?_⟩
        repeat (first | refine jC ?_ | refine jN ?_)
        refine WpC.now (fun ws hxw _ => ?_)
        have hTBw := hTBs.ext hxw hxw.size
        have hxs : Vc.Ext w0 ws := ((((hx1.trans hx2).trans hx3).trans hx4).trans' (below_setL (Below.refl _ _) (by omega) _ _)).trans hxw
        have hl1 : (n.del p).names.length = n.names.length - 1 := by show (n.names.eraseIdx p).length = _; rw [List.length_eraseIdx, if_pos hpl]
        have hl2 : (n.del p).kids.length = n.kids.length - 1 := by show (n.kids.eraseIdx p).length = _; rw [List.length_eraseIdx, if_pos (by omega)]
        obtain ⟨q, hq, hq1, hq2⟩ : ∃ q, (ts.set k (n.del p))[a]? = some q ∧ q.names.length = q.kids.length ∧ q.names.length ≤ 8388608 := by
          by_cases e : a = k
          · subst e
            exact ⟨n.del p, by rw [List.getElem?_set_self hk], by rw [hl1, hl2]; omega, by rw [hl1]; omega⟩
          · exact ⟨na, by rw [List.getElem?_set_ne (Ne.symm e)]; exact hna, hoka.len, (hA.sized.at hna).1⟩
        rw [hq]
        obtain ⟨_, hlo6, hhi6, hm6, hcs6⟩ := hTBw.open_ (k := a) (by simpa using ha)
        have hle6 := hTBw.le
        rw [List.length_set] at hle6
        repeat (first | refine jC ?_ | refine jN ?_ | refine jS ?_ | refine jR ?_ | refine jT ?_ | refine jB ?_ | refine jX rfl ?_ | refine jY rfl ?_ | refine jK ?_ | refine jD ?_ | refine jE ?_)
        refine Ix.mk a rfl ha ?_
        repeat (first | refine jC ?_ | refine jN ?_ | refine jS ?_ | refine jR ?_ | refine jT ?_ | refine jB ?_ | refine jX rfl ?_ | refine jY rfl ?_ | refine jK ?_ | refine jD ?_ | refine jE ?_)
        refine LdN.mk (by rw [Nat.zero_add]; exact hcs6 a q hq) rfl ?_
        repeat (first | refine jC ?_ | refine jN ?_ | refine jS ?_ | refine jR ?_ | refine jT ?_ | refine jB ?_ | refine jX rfl ?_ | refine jY rfl ?_ | refine jK ?_ | refine jD ?_ | refine jE ?_)
        refine CallV.mem _ (fun w' hw _ => sPut_vc q _ _ x2.2 (j : Int) w' ((hTBw.ndIn hq).ext hw) hq1 hq2) (fun x6 we wf hx5 hx6 hO hP3 => ?_)
        obtain ⟨v3, v4, g3, g4, rfl, hB3, hB4, hne2⟩ := hP3
        have hs5 := hx5.size
        have hs6 := hx6.size
        have hTBf := hTBw.ext (hx5.trans hx6) (Nat.le_refl _)
        have hmf := (hm6.ext (hx5.trans hx6))
        have hTBz := hTBf.setN (n' := q.put x2.2 (j : Int)) hq (by omega) (hB3.low hs5) (hB4.low hs5) (fun _ _ => hne2)
        obtain ⟨ad3, cap3, rfl, _⟩ := id hB3
        obtain ⟨ad4, cap4, rfl, _⟩ := id hB4
        repeat (first | refine jC ?_ | refine jN ?_ | refine jS ?_ | refine jR ?_ | refine jT ?_ | refine jB ?_ | refine jX rfl ?_ | refine jY rfl ?_ | refine jK ?_ | refine jD ?_ | refine jE ?_)
        refine Ix.mk a rfl ha ?_
        repeat (first | refine jC ?_ | refine jN ?_ | refine jS ?_ | refine jR ?_ | refine jT ?_ | refine jB ?_ | refine jX rfl ?_ | refine jY rfl ?_ | refine jK ?_ | refine jD ?_ | refine jE ?_)
        refine ⟨by have := hmf.sub (k := a * 7) (m := 7) (by omega); exact this, trivial, rfl, by simp [Value.oneCell'], ?_⟩
        repeat (first | refine jC ?_ | refine jN ?_)
        refine WpC.now (fun wz hxz _ => ?_)
        have hTBy := hTBz.ext hxz hxz.size
        have hxsz := hxs.size
        have hw0 := hx0.size
        have hxe : Vc.Ext w0 wz := ((hxs.trans (hx5.trans hx6)).trans' (below_setL (Below.refl _ _) (by omega) _ _)).trans hxz
        repeat (first | refine jC ?_ | refine jN ?_ | refine jS ?_ | refine jR ?_ | refine jT ?_ | refine jB ?_ | refine jX rfl ?_ | refine jY rfl ?_ | refine jK ?_ | refine jD ?_ | refine jE ?_)
        exact EndV.tree (p := ((ts.set k (n.del p)).set a (q.put x2.2 (j : Int)), 0)) (hx0.trans hxe) (hTBy.fin (by omega) (Nat.le_refl _) (by simp))
    · rw [if_neg (by rw [hf]; simp)]
      repeat (first | refine jC ?_ | refine jN ?_ | refine jS ?_ | refine jR ?_ | refine jT ?_ | refine jB ?_ | refine jX rfl ?_ | refine jY rfl ?_ | refine jK ?_ | refine jD ?_ | refine jE ?_)
      refine CallV.mem _ (fun w' hw _ => sCopy_vc ts _ w' (hA.tree.ext (hx0.trans hw)) hA.sized) (fun x3 wa wb hx1 hx2 hO hB => ?_)
      obtain ⟨ad', cap', g, bl, pv, rfl, hTB⟩ := hB
      have hlow : w0.heap.size ≤ wa.heap.size := hx1.size
      have hlo2 := hx2.size
      obtain ⟨rfl, hlo3, hhi3, hm3, hcs3⟩ := hTB.open_ hk
      have hpl : posN n.names x.2 < n.names.length := (List.getElem?_eq_some_iff.1 hnp).1
      have hsl := hA.sized.at hn
      have hlen := hok.len
      repeat (first | refine jC ?_ | refine jN ?_ | refine jS ?_ | refine jR ?_ | refine jT ?_ | refine jB ?_ | refine jX rfl ?_ | refine jY rfl ?_ | refine jK ?_ | refine jD ?_ | refine jE ?_)
      refine Ix.mk k rfl hk ?_
      repeat (first | refine jC ?_ | refine jN ?_ | refine jS ?_ | refine jR ?_ | refine jT ?_ | refine jB ?_ | refine jX rfl ?_ | refine jY rfl ?_ | refine jK ?_ | refine jD ?_ | refine jE ?_)
      refine LdN.mk (by rw [Nat.zero_add]; exact hcs3 k n hn) rfl ?_
      repeat (first | refine jC ?_ | refine jN ?_ | refine jS ?_ | refine jR ?_ | refine jT ?_ | refine jB ?_ | refine jX rfl ?_ | refine jY rfl ?_ | refine jK ?_ | refine jD ?_ | refine jE ?_)
      refine CallV.mem _ (fun w' hw _ => sTake_vc n _ _ x.2 (posN n.names x.2) w' ((hTB.ndIn hn).ext hw) hok.len hsl.1 hpl hnp (fun j h => posN_eq hok.asc' h)) (fun x5 wc wd hx3 hx4 hO hP2 => ?_)
      generalize posN n.names x.2 = p at hnp hkp hpl hP2 ⊢
      obtain ⟨v1, v2, g1, g2, rfl, hB1, hB2, hne⟩ := hP2
      have hs3 := hx3.size
      have hs4 := hx4.size
      have hTBd := hTB.ext (hx3.trans hx4) (Nat.le_refl _)
      have hmd := (hm3.ext (hx3.trans hx4))
      have hle3 := hTB.le
      have hTBs := hTBd.setN (n' := n.del p) hn (by omega) (hB1.low hs3) (hB2.low hs3) hne
      obtain ⟨ad1, cap1, rfl, _⟩ := id hB1
      obtain ⟨ad2, cap2, rfl, _⟩ := id hB2
      repeat (first | refine jC ?_ | refine jN ?_ | refine jS ?_ | refine jR ?_ | refine jT ?_ | refine jB ?_ | refine jX rfl ?_ | refine jY rfl ?_ | refine jK ?_ | refine jD ?_ | refine jE ?_)
      refine Ix.mk k rfl hk ?_
      repeat (first | refine jC ?_ | refine jN ?_ | refine jS ?_ | refine jR ?_ | refine jT ?_ | refine jB ?_ | refine jX rfl ?_ | refine jY rfl ?_ | refine jK ?_ | refine jD ?_ | refine jE ?_)
      refine ⟨by have := hmd.sub (k := k * 7) (m := 7) (by omega); exact this, trivial, rfl, by simp [Value.oneCell'], ?_⟩
      repeat (first | refine jC ?_ | refine jN ?_)
      refine WpC.now (fun ws hxw _ => ?_)
      have hTBw := hTBs.ext hxw hxw.size
      have hxs : Vc.Ext w0 ws := ((((hx1.trans hx2).trans hx3).trans hx4).trans' (below_setL (Below.refl _ _) (by omega) _ _)).trans hxw
      have hl1 : (n.del p).names.length = n.names.length - 1 := by show (n.names.eraseIdx p).length = _; rw [List.length_eraseIdx, if_pos hpl]
      have hl2 : (n.del p).kids.length = n.kids.length - 1 := by show (n.kids.eraseIdx p).length = _; rw [List.length_eraseIdx, if_pos (by omega)]
      obtain ⟨q, hq, hq1, hq2⟩ : ∃ q, (ts.set k (n.del p))[a]? = some q ∧ q.names.length = q.kids.length ∧ q.names.length ≤ 8388608 := by
        by_cases e : a = k
        · subst e
          exact ⟨n.del p, by rw [List.getElem?_set_self hk], by rw [hl1, hl2]; omega, by rw [hl1]; omega⟩
        · exact ⟨na, by rw [List.getElem?_set_ne (Ne.symm e)]; exact hna, hoka.len, (hA.sized.at hna).1⟩
      rw [hq]
      obtain ⟨_, hlo6, hhi6, hm6, hcs6⟩ := hTBw.open_ (k := a) (by simpa using ha)
      have hle6 := hTBw.le
      rw [List.length_set] at hle6
      repeat (first | refine jC ?_ | refine jN ?_ | refine jS ?_ | refine jR ?_ | refine jT ?_ | refine jB ?_ | refine jX rfl ?_ | refine jY rfl ?_ | refine jK ?_ | refine jD ?_ | refine jE ?_)
      refine Ix.mk a rfl ha ?_
      repeat (first | refine jC ?_ | refine jN ?_ | refine jS ?_ | refine jR ?_ | refine jT ?_ | refine jB ?_ | refine jX rfl ?_ | refine jY rfl ?_ | refine jK ?_ | refine jD ?_ | refine jE ?_)
      refine LdN.mk (by rw [Nat.zero_add]; exact hcs6 a q hq) rfl ?_
      repeat (first | refine jC ?_ | refine jN ?_ | refine jS ?_ | refine jR ?_ | refine jT ?_ | refine jB ?_ | refine jX rfl ?_ | refine jY rfl ?_ | refine jK ?_ | refine jD ?_ | refine jE ?_)
      refine CallV.mem _ (fun w' hw _ => sPut_vc q _ _ x2.2 (j : Int) w' ((hTBw.ndIn hq).ext hw) hq1 hq2) (fun x6 we wf hx5 hx6 hO hP3 => ?_)
      obtain ⟨v3, v4, g3, g4, rfl, hB3, hB4, hne2⟩ := hP3
      have hs5 := hx5.size
      have hs6 := hx6.size
      have hTBf := hTBw.ext (hx5.trans hx6) (Nat.le_refl _)
      have hmf := (hm6.ext (hx5.trans hx6))
      have hTBz := hTBf.setN (n' := q.put x2.2 (j : Int)) hq (by omega) (hB3.low hs5) (hB4.low hs5) (fun _ _ => hne2)
      obtain ⟨ad3, cap3, rfl, _⟩ := id hB3
      obtain ⟨ad4, cap4, rfl, _⟩ := id hB4
      repeat (first | refine jC ?_ | refine jN ?_ | refine jS ?_ | refine jR ?_ | refine jT ?_ | refine jB ?_ | refine jX rfl ?_ | refine jY rfl ?_ | refine jK ?_ | refine jD ?_ | refine jE ?_)
      refine Ix.mk a rfl ha ?_
      repeat (first | refine jC ?_ | refine jN ?_ | refine jS ?_ | refine jR ?_ | refine jT ?_ | refine jB ?_ | refine jX rfl ?_ | refine jY rfl ?_ | refine jK ?_ | refine jD ?_ | refine jE ?_)
      refine ⟨by have := hmf.sub (k := a * 7) (m := 7) (by omega); exact this, trivial, rfl, by simp [Value.oneCell'], ?_⟩
      repeat (first | refine jC ?_ | refine jN ?_)
      refine WpC.now (fun wz hxz _ => ?_)
      have hTBy := hTBz.ext hxz hxz.size
      have hxsz := hxs.size
      have hw0 := hx0.size
      have hxe : Vc.Ext w0 wz := ((hxs.trans (hx5.trans hx6)).trans' (below_setL (Below.refl _ _) (by omega) _ _)).trans hxz
      repeat (first | refine jC ?_ | refine jN ?_ | refine jS ?_ | refine jR ?_ | refine jT ?_ | refine jB ?_ | refine jX rfl ?_ | refine jY rfl ?_ | refine jK ?_ | refine jD ?_ | refine jE ?_)
      exact EndV.tree (p := ((ts.set k (n.del p)).set a (q.put x2.2 (j : Int)), 0)) (hx0.trans hxe) (hTBy.fin (by omega) (Nat.le_refl _) (by simp))
theorem cntNds_setx {ts : List Nd} : ∀ {k : Nat} {n n' : Nd}, ts[k]? = some n → cntNds (ts.set k n') + n.cnt = cntNds ts + n'.cnt := by
  induction ts with
  | nil => intro k n n' h; simp at h
  | cons m r ih =>
    intro k n n' h
    cases k with
    | zero => simp at h; subst h; simp only [List.set_cons_zero, cntNds]; omega
    | succ k =>
      have := ih (n' := n') (by simpa using h)
      simp only [List.set_cons_succ, cntNds]; omega
theorem del_cnt (n : Nd) (p : Nat) : (n.del p).cnt ≤ n.cnt := by
  rw [Nd.cnt, Nd.cnt]
  have h1 : (n.names.eraseIdx p).length ≤ n.names.length := by rw [List.length_eraseIdx]; split <;> omega
  have h2 : (n.kids.eraseIdx p).length ≤ n.kids.length := by rw [List.length_eraseIdx]; split <;> omega
  show 5 + (n.names.eraseIdx p).length + (n.kids.eraseIdx p).length ≤ _
  omega
theorem move_cnt (ts : List Nd) (c : Cr) (s s2 : ByteArray) (hs : Sized ts) (h : cntNds ts ≤ 6291456) : cntNds (moveF (abvF ts c s) (abvF ts c s2) ts c).1 ≤ 100000000 := by
  rw [moveF]
  split
  · simp [cntNds]
  · split
    · simp [cntNds]
    · split
      · simp [cntNds]
      · rename_i n hn
        split
        · simp [cntNds]
        · split
          · simp [cntNds]
          · split
            · simp [cntNds]
            · rename_i q hq
              have h1 := cntNds_setx (n' := n.del (posN n.names (abvF ts c s).nm)) hn
              have h2 := del_cnt n (posN n.names (abvF ts c s).nm)
              simp only [cntNds_put hq]
              omega

end Go.Proofs.YtbnjjpgacemicaaGreatDoor
