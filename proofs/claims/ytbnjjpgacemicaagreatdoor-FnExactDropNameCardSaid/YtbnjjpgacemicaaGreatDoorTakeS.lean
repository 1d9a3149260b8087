/-
  Contracts: the reference's l9Take.
  Conditions: bounds.
-/
import Derived.Test.YtbnjjpgacemicaaGreatDoorTake
namespace Go.Proofs.YtbnjjpgacemicaaGreatDoor
open Go.RowKit Vc
set_option linter.unusedVariables false
set_option maxHeartbeats 2000000
attribute [local irreducible] WpC WpL WpD WpE WpB CallV QCallV Made AppV Ld LdN Ix EndV I64 MutN Mut CellsAt

theorem erase_skip {α : Type} {l : List α} {p : Nat} (h : p < l.length) : (l.take (p + 1)).eraseIdx p = (l.take p).eraseIdx p := by
  rw [List.take_succ_eq_append_getElem h, List.eraseIdx_append_of_length_le (by rw [List.length_take]; omega)]
  have e : p - (l.take p).length = 0 := by rw [List.length_take]; omega
  rw [e, List.eraseIdx_of_length_le (l := l.take p) (by rw [List.length_take]; omega)]
  simp
theorem erase_more {α : Type} {l : List α} {p k : Nat} (h : k < l.length) (hk : k ≠ p) : (l.take (k + 1)).eraseIdx p = (l.take k).eraseIdx p ++ [l[k]] := by
  rw [List.take_succ_eq_append_getElem h]
  rcases Nat.lt_or_ge p k with h' | h'
  · rw [List.eraseIdx_append_of_lt_length (by rw [List.length_take]; omega)]
  · rw [List.eraseIdx_of_length_le (l := l.take k) (by rw [List.length_take]; omega), List.eraseIdx_of_length_le (by rw [List.length_append, List.length_take]; simp; omega)]
structure TkI (w0 : World) (m b5 : Nat) (n : Nd) (wk : World) (vN vK : Value) (ln : List ByteArray) (lk : List Int) (gN gK : Nat) : Prop where
  exc : ExcP (fun j => j = b5 ∨ m ≤ j) w0 wk
  sz : m ≤ wk.heap.size
  mu : MutN wk b5 0 7
  cells : CellsAt wk b5 0 (n.cells vN vK)
  bn : BufS m wk.heap.size wk vN ln.length 1 (strs ln) gN
  bk : BufS m wk.heap.size wk vK lk.length 1 (ints lk) gK
  ne : 0 < capV vN → 0 < capV vK → gN ≠ gK
theorem TkI.ext {w0 : World} {m b5 : Nat} {n : Nd} {wk wz : World} {vN vK : Value} {ln : List ByteArray} {lk : List Int} {gN gK : Nat} (h : TkI w0 m b5 n wk vN vK ln lk gN gK) (hx : Vc.Ext wk wz) : TkI w0 m b5 n wz vN vK ln lk gN gK :=
  ⟨h.exc.trans (ExcP.of_ext hx), Nat.le_trans h.sz hx.size, h.mu.ext hx, h.cells.ext hx, h.bn.ext hx hx.size, h.bk.ext hx hx.size, h.ne⟩
theorem grow_exc {wq A : World} {g g' o : Nat} {cap : Nat} {xs : List Value} (hw : (g' = g ∧ 0 < cap ∧ A = setL wq g o xs) ∨ (wq.heap.size ≤ g' ∧ Vc.Ext wq A)) : ExcP (fun j => 0 < cap ∧ j = g) wq A := by
  rcases hw with ⟨_, h0, rfl⟩ | ⟨_, hx⟩
  · exact (ExcP.refl _ _).setL ⟨h0, rfl⟩ _ _
  · exact ExcP.of_ext hx
theorem TkI.name {w0 : World} {m b5 : Nat} {n : Nd} {wk A : World} {vN vK v' : Value} {ln : List ByteArray} {lk : List Int} {gN gK g' : Nat} {y : ByteArray} {xs : List Value} {o : Nat} (h : TkI w0 m b5 n wk vN vK ln lk gN gK) (hb : b5 < m)
    (hB : BufS m A.heap.size A v' (ln.length + 1) 1 (strs ln ++ [(.string y : Value)]) g') (hw : (g' = gN ∧ 0 < capV vN ∧ A = setL wk gN o xs) ∨ (wk.heap.size ≤ g' ∧ Vc.Ext wk A)) : TkI w0 m b5 n (setL A b5 (0 + 5) [v']) v' vK (ln ++ [y]) lk g' gK := by
  have hX := grow_exc hw
  have hbw : b5 < wk.heap.size := by have := h.sz; omega
  have hn : ¬ (0 < capV vN ∧ b5 = gN) := fun e => by have := (h.bn.blk e.1).1; omega
  have hX2 : ExcP (fun j => j = b5) A (setL A b5 (0 + 5) [v']) := (ExcP.refl (fun j => j = b5) A).setL (S := fun j => j = b5) rfl _ _
  have hmA := h.mu.exc hbw hX hn
  have hsA := hX.size
  refine ⟨(h.exc.trans (hX.mono fun j e => ?_)).trans (hX2.mono fun j e => .inl e), by rw [setL_size]; have := h.sz; omega, MutN.setL _ _ _ hmA, (h.cells.exc hbw hX hn).setAt (hmA.sub (k := 5) (m := 1) (by omega)) (by simp), ?_, ?_, fun h1 h2 => ?_⟩
  · right; have := (h.bn.blk e.1).1; omega
  · have e : strs (ln ++ [y]) = strs ln ++ [(.string y : Value)] := by simp
    rw [e, List.length_append]
    exact hB.exc hX2 (fun hc e => by have := (hB.blk hc).1; omega) (Nat.le_refl _) hX2.size
  · exact (h.bk.exc (hi' := A.heap.size) hX (fun hc e => h.ne e.1 hc e.2.symm) (Nat.le_refl _) hsA).exc hX2 (fun hc e => by have := (h.bk.blk hc).1; omega) (Nat.le_refl _) hX2.size
  · rcases hw with ⟨e, e0, _⟩ | ⟨e, _⟩
    · rw [e]; exact h.ne e0 h2
    · have := (h.bk.blk h2).2; omega
theorem TkI.kid {w0 : World} {m b5 : Nat} {n : Nd} {wk A : World} {vN vK v' : Value} {ln : List ByteArray} {lk : List Int} {gN gK g' : Nat} {y : Int} {xs : List Value} {o : Nat} (h : TkI w0 m b5 n wk vN vK ln lk gN gK) (hb : b5 < m)
    (hB : BufS m A.heap.size A v' (lk.length + 1) 1 (ints lk ++ [(.int .i64 y : Value)]) g') (hw : (g' = gK ∧ 0 < capV vK ∧ A = setL wk gK o xs) ∨ (wk.heap.size ≤ g' ∧ Vc.Ext wk A)) : TkI w0 m b5 n (setL A b5 (0 + 6) [v']) vN v' ln (lk ++ [y]) gN g' := by
  have hX := grow_exc hw
  have hbw : b5 < wk.heap.size := by have := h.sz; omega
  have hn : ¬ (0 < capV vK ∧ b5 = gK) := fun e => by have := (h.bk.blk e.1).1; omega
  have hX2 : ExcP (fun j => j = b5) A (setL A b5 (0 + 6) [v']) := (ExcP.refl (fun j => j = b5) A).setL (S := fun j => j = b5) rfl _ _
  have hmA := h.mu.exc hbw hX hn
  have hsA := hX.size
  refine ⟨(h.exc.trans (hX.mono fun j e => ?_)).trans (hX2.mono fun j e => .inl e), by rw [setL_size]; have := h.sz; omega, MutN.setL _ _ _ hmA, (h.cells.exc hbw hX hn).setAt (hmA.sub (k := 6) (m := 1) (by omega)) (by simp), ?_, ?_, fun h1 h2 => ?_⟩
  · right; have := (h.bk.blk e.1).1; omega
  · exact (h.bn.exc (hi' := A.heap.size) hX (fun hc e => h.ne hc e.1 e.2) (Nat.le_refl _) hsA).exc hX2 (fun hc e => by have := (h.bn.blk hc).1; omega) (Nat.le_refl _) hX2.size
  · have e : ints (lk ++ [y]) = ints lk ++ [(.int .i64 y : Value)] := by simp
    rw [e, List.length_append]
    exact hB.exc hX2 (fun hc e => by have := (hB.blk hc).1; omega) (Nat.le_refl _) hX2.size
  · rcases hw with ⟨e, e0, _⟩ | ⟨e, _⟩
    · rw [e]; exact h.ne h1 e0
    · have := (h.bn.blk h1).2; omega
theorem sTake_vc (n : Nd) (nv kv : Value) (x : ByteArray) (p : Nat) (w : World) (hN : NdIn w n nv kv) (hkn : n.names.length = n.kids.length) (hl : n.names.length ≤ 8388608) (hp : p < n.names.length) (hx : n.names[p]? = some x) (hu : ∀ j : Nat, n.names[j]? = some x → j = p) :
    Calls Tryz.prog 32 #[n.val nv kv, .string x] w fun e w' => ∃ v, e = .returned v ∧ (∃ v1 v2 g1 g2, v = (n.del p).val v1 v2 ∧ BufS w.heap.size w'.heap.size w' v1 (n.del p).names.length 1 (strs (n.del p).names) g1 ∧ BufS w.heap.size w'.heap.size w' v2 (n.del p).kids.length 1 (ints (n.del p).kids) g2 ∧ (0 < capV v1 → 0 < capV v2 → g1 ≠ g2)) ∧ Vc.Ext w w' := by
  obtain ⟨kad, kcap, rfl, hka⟩ := kids_open hN
  obtain ⟨nad, ncap, rfl, hna⟩ := names_open hN
  refine calls_of cx_ok Tryz.func32 Tryz.ntmps32 Tryz.results32 rfl rfl ?_
  repeat (first | refine jC ?_ | refine jN ?_ | refine jS ?_ | refine jR ?_ | refine jT ?_ | refine jB ?_ | refine jX rfl ?_ | refine jY rfl ?_ | refine jK ?_ | refine jD ?_ | refine jE ?_)
  intro b2 hb2
  repeat (first | refine jC ?_ | refine jN ?_ | refine jS ?_ | refine jR ?_ | refine jT ?_ | refine jB ?_ | refine jX rfl ?_ | refine jY rfl ?_ | refine jK ?_ | refine jD ?_ | refine jE ?_)
  intro b4 hb4
  repeat (first | refine jC ?_ | refine jN ?_ | refine jS ?_ | refine jR ?_ | refine jT ?_ | refine jB ?_ | refine jX rfl ?_ | refine jY rfl ?_ | refine jK ?_ | refine jD ?_ | refine jE ?_)
  intro b5 hb5
  repeat (first | refine jC ?_ | refine jN ?_ | refine jS ?_ | refine jR ?_ | refine jT ?_ | refine jB ?_ | refine jX rfl ?_ | refine jY rfl ?_ | refine jK ?_ | refine jD ?_ | refine jE ?_)
  refine ⟨by assumption, rfl, by simp, by simp [Value.oneCell'], ?_⟩
  repeat (first | refine jC ?_ | refine jN ?_)
  refine WpC.plain (fun w0 hx0 hO => ?_)
  have hq2 := hO.1 0 _ rfl
  have hq4 := hO.1 1 _ rfl
  have hq5 := hO.1 2 _ rfl
  have h25 : b2 ≠ b5 := fun e => absurd (hO.2 0 2 _ _ rfl rfl e) (by decide)
  have h45 : b4 ≠ b5 := fun e => absurd (hO.2 1 2 _ _ rfl rfl e) (by decide)
  have hc2 : CellsAt w0 b2 0 (n.cells (.slice nad n.names.length ncap) (.slice kad n.kids.length kcap)) := CellsAt.of_block hq2 fun i v hi => by simpa using hi
  have hc5 : CellsAt w0 b5 0 (n.cells (.slice nad n.names.length ncap) (.slice kad n.kids.length kcap)) := CellsAt.of_block hq5 fun i v hi => by simpa using hi
  have hm5 : MutN w0 b5 0 7 := MutN.of_block hq5 (by simp)
  have hm4 : MutN w0 b4 0 7 := MutN.of_block hq4 (by simp)
  have hl2 : b2 < w0.heap.size := hc2.lt (by simp)
  have hl5 : b5 < w0.heap.size := hc5.lt (by simp)
  have hl4 : b4 < w0.heap.size := (CellsAt.of_block (o := 0) (m := [.bool false]) hq4 fun i v hi => by cases i <;> simp at hi ⊢; exact hi).lt (by simp)
  repeat (first | refine jC ?_ | refine jN ?_ | refine jS ?_ | refine jR ?_ | refine jT ?_ | refine jB ?_ | refine jX rfl ?_ | refine jY rfl ?_ | refine jK ?_ | refine jD ?_ | refine jE ?_)
  refine Made.mk fun g1 w1 hx1 hg11 hg12 hg13 _ => ?_
  repeat (first | refine jC ?_ | refine jN ?_ | refine jS ?_ | refine jR ?_ | refine jT ?_ | refine jB ?_ | refine jX rfl ?_ | refine jY rfl ?_ | refine jK ?_ | refine jD ?_ | refine jE ?_)
  refine ⟨by simpa using (hm5.ext hx1).sub (k := 5) (m := 1) (by omega), trivial, rfl, by simp [Value.oneCell'], ?_⟩
  have hc5a := (hc5.ext hx1).setAt (x := .slice (some ⟨g1, 0, none⟩) 0 0) ((hm5.ext hx1).sub (k := 5) (m := 1) (by omega)) (by simp)
  have hm5a : MutN (setL w1 b5 (0 + 5) [.slice (some ⟨g1, 0, none⟩) 0 0]) b5 0 7 := MutN.setL _ _ _ (hm5.ext hx1)
  have hX1 : ExcP (fun j => j = b5) w0 (setL w1 b5 (0 + 5) [.slice (some ⟨g1, 0, none⟩) 0 0]) := (ExcP.of_ext hx1).setL (S := fun j => j = b5) rfl _ _
  repeat (first | refine jC ?_ | refine jN ?_ | refine jS ?_ | refine jR ?_ | refine jT ?_ | refine jB ?_ | refine jX rfl ?_ | refine jY rfl ?_ | refine jK ?_ | refine jD ?_ | refine jE ?_)
  refine Made.mk fun g2 w2 hx2 hg21 hg22 hg23 _ => ?_
  repeat (first | refine jC ?_ | refine jN ?_ | refine jS ?_ | refine jR ?_ | refine jT ?_ | refine jB ?_ | refine jX rfl ?_ | refine jY rfl ?_ | refine jK ?_ | refine jD ?_ | refine jE ?_)
  refine ⟨by simpa using (hm5a.ext hx2).sub (k := 6) (m := 1) (by omega), trivial, rfl, by simp [Value.oneCell'], ?_⟩
  have hc5b := (hc5a.ext hx2).setAt (x := .slice (some ⟨g2, 0, none⟩) 0 0) ((hm5a.ext hx2).sub (k := 6) (m := 1) (by omega)) (by simp)
  have hm5b : MutN (setL w2 b5 (0 + 6) [.slice (some ⟨g2, 0, none⟩) 0 0]) b5 0 7 := MutN.setL _ _ _ (hm5a.ext hx2)
  have hX2 : ExcP (fun j => j = b5) w0 (setL w2 b5 (0 + 6) [.slice (some ⟨g2, 0, none⟩) 0 0]) := (hX1.trans (ExcP.of_ext hx2)).setL (S := fun j => j = b5) rfl _ _
  repeat (first | refine jC ?_ | refine jN ?_)
  refine WpC.now (fun w3 hx3 _ => ?_)
  have hX3 := hX2.trans (ExcP.of_ext hx3)
  have hc5c := hc5b.ext hx3
  have hm5c := hm5b.ext hx3
  have hs3 := hX3.size
  repeat (first | refine jC ?_ | refine jN ?_ | refine jS ?_ | refine jR ?_ | refine jT ?_ | refine jB ?_ | refine jX rfl ?_ | refine jY rfl ?_ | refine jK ?_ | refine jD ?_ | refine jE ?_)
  have hb5m : b5 < w3.heap.size := by omega
  refine WpC.loop (α := Nat × Value × Value × Nat × Nat × World) (fun x' => ⟨[(1, .v (.string x)), (2, .v (.pointer (some ⟨b2, 0, none⟩))), (4, .v (.pointer (some ⟨b4, 0, none⟩))), (5, .v (.pointer (some ⟨b5, 0, none⟩))), (6, .v (.int .i64 (x'.1 : Int)))], [], x'.2.2.2.2.2⟩)
    (fun x' => x'.1 ≤ n.names.length ∧ TkI w0 w3.heap.size b5 n x'.2.2.2.2.2 x'.2.1 x'.2.2.1 ((n.names.take x'.1).eraseIdx p) ((n.kids.take x'.1).eraseIdx p) x'.2.2.2.1 x'.2.2.2.2.1) (fun x' => n.names.length - x'.1) (0, .slice (some ⟨g1, 0, none⟩) 0 0, .slice (some ⟨g2, 0, none⟩) 0 0, 0, 0, w3)
    ⟨Nat.zero_le _, hX3.mono fun j e => .inl e, Nat.le_refl _, hm5c, hc5c, by simpa using BufS.zero _ _ _ _ _ _ _, by simpa using BufS.zero _ _ _ _ _ _ _, fun h => absurd h (by simp [capV])⟩ ⟨⟨rfl, rfl, rfl, rfl, rfl, trivial⟩, trivial, trivial, Vc.Ext.refl _⟩ ?_
  rintro ⟨k, vN, vK, gN, gK, wk⟩ ⟨hk, hI⟩
  dsimp only at hk hI ⊢
  have hlw := hx0.size
  have hxk : Vc.Ext w wk := hx0.trans' (hI.exc.below hlw (fun j hj => by rintro (e | e) <;> omega))
  have hc2k := hc2.exc hl2 hI.exc (by rintro (e | e); exact h25 e; omega)
  repeat (first | refine jC ?_ | refine jN ?_ | refine jS ?_ | refine jR ?_ | refine jT ?_ | refine jB ?_ | refine jX rfl ?_ | refine jY rfl ?_ | refine jK ?_ | refine jD ?_ | refine jE ?_)
  refine Ld.mk (hc2k.out 5 _ rfl) ?_
  repeat (first | refine jC ?_ | refine jN ?_ | refine jS ?_ | refine jR ?_ | refine jT ?_ | refine jB ?_ | refine jX rfl ?_ | refine jY rfl ?_ | refine jK ?_ | refine jD ?_ | refine jE ?_)
  refine Br.intro (fun h => ?_) (fun h => ?_)
  · have hlt : k < n.names.length := by have := of_decide_eq_true h; omega
    have hlt2 : k < n.kids.length := by omega
    have hu1 : n.names[k]? = some n.names[k] := List.getElem?_eq_getElem hlt
    have hu2 : n.kids[k]? = some n.kids[k] := List.getElem?_eq_getElem hlt2
    obtain ⟨nb, no, rfl, hnb, hnc⟩ := hna (by omega)
    obtain ⟨kb, ko, rfl, hkb, hkc⟩ := hka (by omega)
    repeat (first | refine jC ?_ | refine jN ?_ | refine jS ?_ | refine jR ?_ | refine jT ?_ | refine jB ?_ | refine jX rfl ?_ | refine jY rfl ?_ | refine jK ?_ | refine jD ?_ | refine jE ?_)
    refine Ld.mk (hc2k.out 5 _ rfl) ?_
    repeat (first | refine jC ?_ | refine jN ?_ | refine jS ?_ | refine jR ?_ | refine jT ?_ | refine jB ?_ | refine jX rfl ?_ | refine jY rfl ?_ | refine jK ?_ | refine jD ?_ | refine jE ?_)
    refine Ix.mk k rfl hlt ?_
    repeat (first | refine jC ?_ | refine jN ?_ | refine jS ?_ | refine jR ?_ | refine jT ?_ | refine jB ?_ | refine jX rfl ?_ | refine jY rfl ?_ | refine jK ?_ | refine jD ?_ | refine jE ?_)
    refine Ld.mk ((hnc.ext hxk).out k _ (strs_get hu1)) ?_
    repeat (first | refine jC ?_ | refine jN ?_ | refine jS ?_ | refine jR ?_ | refine jT ?_ | refine jB ?_ | refine jX rfl ?_ | refine jY rfl ?_ | refine jK ?_ | refine jD ?_ | refine jE ?_)
    refine Br.intro (fun h2 => ?_) (fun h2 => ?_)
    · have hkp : k ≠ p := by
        rintro rfl
        rw [hu1] at hx
        rw [toList_beq] at h2
        simp [Option.some.inj hx] at h2
      have em1 := erase_more hlt hkp
      have em2 := erase_more hlt2 hkp
      generalize n.names[k] = y at hu1 em1 ⊢
      generalize n.kids[k] = z at hu2 em2 ⊢
      have hel1 : ((n.names.take k).eraseIdx p).length ≤ k := by rw [List.length_eraseIdx]; split <;> rw [List.length_take] <;> omega
      have hel2 : ((n.kids.take k).eraseIdx p).length ≤ k := by rw [List.length_eraseIdx]; split <;> rw [List.length_take] <;> omega
      obtain ⟨adN, capN, rfl, _⟩ := id hI.bn
      obtain ⟨adK, capK, rfl, _⟩ := id hI.bk
      have hsc := hnc.ext hxk
      repeat (first | refine jC ?_ | refine jN ?_ | refine jS ?_ | refine jR ?_ | refine jT ?_ | refine jB ?_ | refine jX rfl ?_ | refine jY rfl ?_ | refine jK ?_ | refine jD ?_ | refine jE ?_)
      refine WpC.drawD (ExcP (fun j => 0 < capV (.slice adN ((n.names.take k).eraseIdx p).length capN) ∧ j = gN) wk) (fun w' hw => ExcP.of_ext hw) (.st 0 (.st 1 (.st 2 (.st 3 (.st 4 (.st 5 (.st 6 (.ef 7 (.ef 8 (.st 9 (.ef 10 .done .done)) .done) .done)))))))) [(4, .mv), (7, .ef), (8, .ef), (10, .br)] (by kernel_rfl) ?_
      have hnb5 : ¬ (0 < capV (.slice adN ((n.names.take k).eraseIdx p).length capN) ∧ b5 = gN) := fun e => by have := (hI.bn.blk e.1).1; omega
      have hnb2 : ¬ (0 < capV (.slice adN ((n.names.take k).eraseIdx p).length capN) ∧ b2 = gN) := fun e => by have := (hI.bn.blk e.1).1; omega
      have hnbs : ¬ (0 < capV (.slice adN ((n.names.take k).eraseIdx p).length capN) ∧ nb = gN) := fun e => by have := (hI.bn.blk e.1).1; omega
      have hbk : b5 < wk.heap.size := by have := hI.sz; omega
      have hbk2 : b2 < wk.heap.size := by have := hI.sz; omega
      have hbks : nb < wk.heap.size := by have := hI.sz; omega
      repeat (first | refine uM ?_ | refine uR ?_ | refine uE ?_ | refine uB ?_ | refine uA ?_ | refine uD ?_ | refine jC ?_ | refine jN ?_ | refine jS ?_ | refine jR ?_ | refine jT ?_ | refine jB ?_ | refine jX rfl ?_ | refine jY rfl ?_ | refine jK ?_ | refine jD ?_ | refine jE ?_)
      refine WpE.rdD (by exact rfl) (by exact rfl) ?_
      refine ⟨_, fun w' hw => rfl, ?_⟩
      repeat (first | refine uM ?_ | refine uR ?_ | refine uE ?_ | refine uB ?_ | refine uA ?_ | refine uD ?_ | refine jC ?_ | refine jN ?_ | refine jS ?_ | refine jR ?_ | refine jT ?_ | refine jB ?_ | refine jX rfl ?_ | refine jY rfl ?_ | refine jK ?_ | refine jD ?_ | refine jE ?_)
      refine WpE.rdD (by exact rfl) (by exact rfl) ?_
      refine ⟨_, fun w' hw => Ld.mk ((hI.cells.exc hbk hw hnb5).out 5 _ rfl) rfl, ?_⟩
      repeat (first | refine uM ?_ | refine uR ?_ | refine uE ?_ | refine uB ?_ | refine uA ?_ | refine uD ?_ | refine jC ?_ | refine jN ?_ | refine jS ?_ | refine jR ?_ | refine jT ?_ | refine jB ?_ | refine jX rfl ?_ | refine jY rfl ?_ | refine jK ?_ | refine jD ?_ | refine jE ?_)
      refine WpE.rdD (by exact rfl) (by exact rfl) ?_
      refine ⟨_, fun w' hw => rfl, ?_⟩
      repeat (first | refine uM ?_ | refine uR ?_ | refine uE ?_ | refine uB ?_ | refine uA ?_ | refine uD ?_ | refine jC ?_ | refine jN ?_ | refine jS ?_ | refine jR ?_ | refine jT ?_ | refine jB ?_ | refine jX rfl ?_ | refine jY rfl ?_ | refine jK ?_ | refine jD ?_ | refine jE ?_)
      refine WpE.rdD (by exact rfl) (by exact rfl) ?_
      refine ⟨_, fun w' hw => Ld.mk ((hc2k.exc hbk2 hw hnb2).out 5 _ rfl) rfl, ?_⟩
      repeat (first | refine uM ?_ | refine uR ?_ | refine uE ?_ | refine uB ?_ | refine uA ?_ | refine uD ?_ | refine jC ?_ | refine jN ?_ | refine jS ?_ | refine jR ?_ | refine jT ?_ | refine jB ?_ | refine jX rfl ?_ | refine jY rfl ?_ | refine jK ?_ | refine jD ?_ | refine jE ?_)
      refine WpE.rdD (by exact rfl) (by exact rfl) ?_
      refine ⟨_, fun w' hw => Ix.mk k rfl (by omega) rfl, ?_⟩
      repeat (first | refine uM ?_ | refine uR ?_ | refine uE ?_ | refine uB ?_ | refine uA ?_ | refine uD ?_ | refine jC ?_ | refine jN ?_ | refine jS ?_ | refine jR ?_ | refine jT ?_ | refine jB ?_ | refine jX rfl ?_ | refine jY rfl ?_ | refine jK ?_ | refine jD ?_ | refine jE ?_)
      refine WpE.rdD (by exact rfl) (by exact rfl) ?_
      refine ⟨_, fun w' hw => Ld.mk ((hsc.exc hbks hw hnbs).out k _ (strs_get hu1)) rfl, ?_⟩
      repeat (first | refine uM ?_ | refine uR ?_ | refine uE ?_ | refine uB ?_ | refine uA ?_ | refine uD ?_ | refine jC ?_ | refine jN ?_ | refine jS ?_ | refine jR ?_ | refine jT ?_ | refine jB ?_ | refine jX rfl ?_ | refine jY rfl ?_ | refine jK ?_ | refine jD ?_ | refine jE ?_)
      refine Made.mk fun gl wq hq hgl1 hgl2 hgl3 _ => ?_
      refine ⟨Keep.mk fun w' hw => ExcP.of_ext (hq.trans hw), ?_⟩
      repeat (first | refine uM ?_ | refine uR ?_ | refine uE ?_ | refine uB ?_ | refine uA ?_ | refine uD ?_ | refine jC ?_ | refine jN ?_ | refine jS ?_ | refine jR ?_ | refine jT ?_ | refine jB ?_ | refine jX rfl ?_ | refine jY rfl ?_ | refine jK ?_ | refine jD ?_ | refine jE ?_)
      have hIq := hI.ext hq
      have hszq := hIq.sz
      refine AppV.bufS hIq.bn (by omega) (news := [.string y]) (CellsAt.of_block hgl3 (fun i v hi => by simpa using hi)) rfl (by simp [Value.oneCell']) (fun _ => trivial) (by omega) (by omega) rfl hszq (Nat.le_refl _) (fun v' A' g' hB' hc' hw => ?_)
      obtain ⟨adq, capq, rfl, _⟩ := id hB'
      refine ⟨Keep.mk fun w' hw' => ((ExcP.of_ext hq).trans (grow_exc hw)).trans (ExcP.of_ext hw'), ?_⟩
      repeat (first | refine uM ?_ | refine uR ?_ | refine uE ?_ | refine uB ?_ | refine uA ?_ | refine uD ?_ | refine jC ?_ | refine jN ?_ | refine jS ?_ | refine jR ?_ | refine jT ?_ | refine jB ?_ | refine jX rfl ?_ | refine jY rfl ?_ | refine jK ?_ | refine jD ?_ | refine jE ?_)
      refine WpE.rdD (by exact rfl) (by exact rfl) ?_
      refine ⟨_, fun w' hw => rfl, ?_⟩
      repeat (first | refine uM ?_ | refine uR ?_ | refine uE ?_ | refine uB ?_ | refine uA ?_ | refine uD ?_ | refine jC ?_ | refine jN ?_ | refine jS ?_ | refine jR ?_ | refine jT ?_ | refine jB ?_ | refine jX rfl ?_ | refine jY rfl ?_ | refine jK ?_ | refine jD ?_ | refine jE ?_)
      have hmA := hIq.mu.exc (by omega) (grow_exc hw) hnb5
      refine ⟨by simpa using hmA.sub (k := 5) (m := 1) (by omega), trivial, rfl, by simp [Value.oneCell'], ?_⟩
      have hI2 := hIq.name hb5m hB' hw
      repeat (first | refine uM ?_ | refine uR ?_ | refine uE ?_ | refine uB ?_ | refine uA ?_ | refine uD ?_)
      refine WpC.now (fun wr hxr _ => ?_)
      have hI := hI2.ext hxr
      have hxk : Vc.Ext w wr := hx0.trans' (hI.exc.below hlw (fun j hj => by rintro (e | e) <;> omega))
      have hc2k := hc2.exc hl2 hI.exc (by rintro (e | e); exact h25 e; omega)
      have hsc := hkc.ext hxk
      repeat (first | refine jC ?_ | refine jN ?_ | refine jS ?_ | refine jR ?_ | refine jT ?_ | refine jB ?_ | refine jX rfl ?_ | refine jY rfl ?_ | refine jK ?_ | refine jD ?_ | refine jE ?_)
      refine WpC.drawD (ExcP (fun j => 0 < capV (.slice adK ((n.kids.take k).eraseIdx p).length capK) ∧ j = gK) wr) (fun w' hw => ExcP.of_ext hw) (.st 0 (.st 1 (.st 2 (.st 3 (.st 4 (.st 5 (.st 6 (.ef 7 (.ef 8 (.st 9 (.ef 10 .done .done)) .done) .done)))))))) [(4, .mv), (7, .ef), (8, .ef), (10, .br)] (by kernel_rfl) ?_
      have hnb5 : ¬ (0 < capV (.slice adK ((n.kids.take k).eraseIdx p).length capK) ∧ b5 = gK) := fun e => by have := (hI.bk.blk e.1).1; omega
      have hnb2 : ¬ (0 < capV (.slice adK ((n.kids.take k).eraseIdx p).length capK) ∧ b2 = gK) := fun e => by have := (hI.bk.blk e.1).1; omega
      have hnbs : ¬ (0 < capV (.slice adK ((n.kids.take k).eraseIdx p).length capK) ∧ kb = gK) := fun e => by have := (hI.bk.blk e.1).1; omega
      have hbk : b5 < wr.heap.size := by have := hI.sz; omega
      have hbk2 : b2 < wr.heap.size := by have := hI.sz; omega
      have hbks : kb < wr.heap.size := by have := hI.sz; omega
      repeat (first | refine uM ?_ | refine uR ?_ | refine uE ?_ | refine uB ?_ | refine uA ?_ | refine uD ?_ | refine jC ?_ | refine jN ?_ | refine jS ?_ | refine jR ?_ | refine jT ?_ | refine jB ?_ | refine jX rfl ?_ | refine jY rfl ?_ | refine jK ?_ | refine jD ?_ | refine jE ?_)
      refine WpE.rdD (by exact rfl) (by exact rfl) ?_
      refine ⟨_, fun w' hw => rfl, ?_⟩
      repeat (first | refine uM ?_ | refine uR ?_ | refine uE ?_ | refine uB ?_ | refine uA ?_ | refine uD ?_ | refine jC ?_ | refine jN ?_ | refine jS ?_ | refine jR ?_ | refine jT ?_ | refine jB ?_ | refine jX rfl ?_ | refine jY rfl ?_ | refine jK ?_ | refine jD ?_ | refine jE ?_)
      refine WpE.rdD (by exact rfl) (by exact rfl) ?_
      refine ⟨_, fun w' hw => Ld.mk ((hI.cells.exc hbk hw hnb5).out 6 _ rfl) rfl, ?_⟩
      repeat (first | refine uM ?_ | refine uR ?_ | refine uE ?_ | refine uB ?_ | refine uA ?_ | refine uD ?_ | refine jC ?_ | refine jN ?_ | refine jS ?_ | refine jR ?_ | refine jT ?_ | refine jB ?_ | refine jX rfl ?_ | refine jY rfl ?_ | refine jK ?_ | refine jD ?_ | refine jE ?_)
      refine WpE.rdD (by exact rfl) (by exact rfl) ?_
      refine ⟨_, fun w' hw => rfl, ?_⟩
      repeat (first | refine uM ?_ | refine uR ?_ | refine uE ?_ | refine uB ?_ | refine uA ?_ | refine uD ?_ | refine jC ?_ | refine jN ?_ | refine jS ?_ | refine jR ?_ | refine jT ?_ | refine jB ?_ | refine jX rfl ?_ | refine jY rfl ?_ | refine jK ?_ | refine jD ?_ | refine jE ?_)
      refine WpE.rdD (by exact rfl) (by exact rfl) ?_
      refine ⟨_, fun w' hw => Ld.mk ((hc2k.exc hbk2 hw hnb2).out 6 _ rfl) rfl, ?_⟩
      repeat (first | refine uM ?_ | refine uR ?_ | refine uE ?_ | refine uB ?_ | refine uA ?_ | refine uD ?_ | refine jC ?_ | refine jN ?_ | refine jS ?_ | refine jR ?_ | refine jT ?_ | refine jB ?_ | refine jX rfl ?_ | refine jY rfl ?_ | refine jK ?_ | refine jD ?_ | refine jE ?_)
      refine WpE.rdD (by exact rfl) (by exact rfl) ?_
      refine ⟨_, fun w' hw => Ix.mk k rfl (by omega) rfl, ?_⟩
      repeat (first | refine uM ?_ | refine uR ?_ | refine uE ?_ | refine uB ?_ | refine uA ?_ | refine uD ?_ | refine jC ?_ | refine jN ?_ | refine jS ?_ | refine jR ?_ | refine jT ?_ | refine jB ?_ | refine jX rfl ?_ | refine jY rfl ?_ | refine jK ?_ | refine jD ?_ | refine jE ?_)
      refine WpE.rdD (by exact rfl) (by exact rfl) ?_
      refine ⟨_, fun w' hw => Ld.mk ((hsc.exc hbks hw hnbs).out k _ (by rw [List.getElem?_map, hu2]; rfl)) rfl, ?_⟩
      repeat (first | refine uM ?_ | refine uR ?_ | refine uE ?_ | refine uB ?_ | refine uA ?_ | refine uD ?_ | refine jC ?_ | refine jN ?_ | refine jS ?_ | refine jR ?_ | refine jT ?_ | refine jB ?_ | refine jX rfl ?_ | refine jY rfl ?_ | refine jK ?_ | refine jD ?_ | refine jE ?_)
      refine Made.mk fun gl wq hq hgl1 hgl2 hgl3 _ => ?_
      refine ⟨Keep.mk fun w' hw => ExcP.of_ext (hq.trans hw), ?_⟩
      repeat (first | refine uM ?_ | refine uR ?_ | refine uE ?_ | refine uB ?_ | refine uA ?_ | refine uD ?_ | refine jC ?_ | refine jN ?_ | refine jS ?_ | refine jR ?_ | refine jT ?_ | refine jB ?_ | refine jX rfl ?_ | refine jY rfl ?_ | refine jK ?_ | refine jD ?_ | refine jE ?_)
      have hIq := hI.ext hq
      have hszq := hIq.sz
      refine AppV.bufS hIq.bk (by omega) (news := [.int .i64 z]) (CellsAt.of_block hgl3 (fun i v hi => by simpa using hi)) rfl (by simp [Value.oneCell']) (fun _ => trivial) (by omega) (by omega) rfl hszq (Nat.le_refl _) (fun v' A' g' hB' hc' hw => ?_)
      obtain ⟨adq, capq, rfl, _⟩ := id hB'
      refine ⟨Keep.mk fun w' hw' => ((ExcP.of_ext hq).trans (grow_exc hw)).trans (ExcP.of_ext hw'), ?_⟩
      repeat (first | refine uM ?_ | refine uR ?_ | refine uE ?_ | refine uB ?_ | refine uA ?_ | refine uD ?_ | refine jC ?_ | refine jN ?_ | refine jS ?_ | refine jR ?_ | refine jT ?_ | refine jB ?_ | refine jX rfl ?_ | refine jY rfl ?_ | refine jK ?_ | refine jD ?_ | refine jE ?_)
      refine WpE.rdD (by exact rfl) (by exact rfl) ?_
      refine ⟨_, fun w' hw => rfl, ?_⟩
      repeat (first | refine uM ?_ | refine uR ?_ | refine uE ?_ | refine uB ?_ | refine uA ?_ | refine uD ?_ | refine jC ?_ | refine jN ?_ | refine jS ?_ | refine jR ?_ | refine jT ?_ | refine jB ?_ | refine jX rfl ?_ | refine jY rfl ?_ | refine jK ?_ | refine jD ?_ | refine jE ?_)
      have hmA := hIq.mu.exc (by omega) (grow_exc hw) hnb5
      refine ⟨by simpa using hmA.sub (k := 6) (m := 1) (by omega), trivial, rfl, by simp [Value.oneCell'], ?_⟩
      have hI2 := hIq.kid hb5m hB' hw
      repeat (first | refine uM ?_ | refine uR ?_ | refine uE ?_ | refine uB ?_ | refine uA ?_ | refine uD ?_)
      refine WpC.now (fun wt hxt _ => ?_)
      have hI3 := hI2.ext hxt
      repeat (first | refine jC ?_ | refine jN ?_ | refine jS ?_ | refine jR ?_ | refine jT ?_ | refine jB ?_ | refine jX rfl ?_ | refine jY rfl ?_ | refine jK ?_ | refine jD ?_ | refine jE ?_)
      refine ⟨I64.mk (by omega), ?_⟩
      repeat (first | refine jC ?_ | refine jN ?_ | refine jS ?_ | refine jR ?_ | refine jT ?_ | refine jB ?_ | refine jX rfl ?_ | refine jY rfl ?_ | refine jK ?_ | refine jD ?_ | refine jE ?_)
      exact ⟨(k + 1, _, _, _, _, wt), ⟨hlt, by dsimp only; rw [em1, em2]; exact hI3⟩, by show n.names.length - (k + 1) < n.names.length - k; omega, ⟨rfl, rfl, rfl, rfl, rfl, trivial⟩, trivial, trivial, Vc.Ext.refl _⟩
    · have hkp : k = p := by
        rw [toList_beq] at h2
        have h3 : n.names[k] = x := by simpa using h2
        exact hu k (by rw [hu1, h3])
      subst hkp
      repeat (first | refine jC ?_ | refine jN ?_ | refine jS ?_ | refine jR ?_ | refine jT ?_ | refine jB ?_ | refine jX rfl ?_ | refine jY rfl ?_ | refine jK ?_ | refine jD ?_ | refine jE ?_)
      refine ⟨I64.mk (by omega), ?_⟩
      repeat (first | refine jC ?_ | refine jN ?_ | refine jS ?_ | refine jR ?_ | refine jT ?_ | refine jB ?_ | refine jX rfl ?_ | refine jY rfl ?_ | refine jK ?_ | refine jD ?_ | refine jE ?_)
      exact ⟨(k + 1, _, _, _, _, wk), ⟨hlt, by dsimp only; rw [erase_skip hlt, erase_skip hlt2]; exact hI⟩, by show n.names.length - (k + 1) < n.names.length - k; omega, ⟨rfl, rfl, rfl, rfl, rfl, trivial⟩, trivial, trivial, Vc.Ext.refl _⟩
  · have hke : k = n.names.length := by have := of_decide_eq_false h; omega
    subst hke
    rw [List.take_length, hkn, List.take_length] at hI
    repeat (first | refine jC ?_ | refine jN ?_ | refine jS ?_ | refine jR ?_ | refine jT ?_ | refine jB ?_ | refine jX rfl ?_ | refine jY rfl ?_ | refine jK ?_ | refine jD ?_ | refine jE ?_)
    refine LdN.mk hI.cells rfl ?_
    repeat (first | refine jC ?_ | refine jN ?_ | refine jS ?_ | refine jR ?_ | refine jT ?_ | refine jB ?_ | refine jX rfl ?_ | refine jY rfl ?_ | refine jK ?_ | refine jD ?_ | refine jE ?_)
    have hm4k := hm4.exc hl4 hI.exc (by rintro (e | e); exact h45 e; omega)
    obtain ⟨adN, capN, rfl, _⟩ := id hI.bn
    obtain ⟨adK, capK, rfl, _⟩ := id hI.bk
    refine ⟨hm4k, trivial, rfl, by simp [Value.oneCell'], ?_⟩
    repeat (first | refine jC ?_ | refine jN ?_ | refine jS ?_ | refine jR ?_ | refine jT ?_ | refine jB ?_ | refine jX rfl ?_ | refine jY rfl ?_ | refine jK ?_ | refine jD ?_ | refine jE ?_)
    refine LdN.mk (CellsAt.setL_in (l := n.cells (.slice adN (n.names.eraseIdx p).length capN) (.slice adK (n.kids.eraseIdx p).length capK)) hm4k) rfl ?_
    repeat (first | refine jC ?_ | refine jN ?_ | refine jS ?_ | refine jR ?_ | refine jT ?_ | refine jB ?_ | refine jX rfl ?_ | refine jY rfl ?_ | refine jK ?_ | refine jD ?_ | refine jE ?_)
    have hX4 : ExcP (fun j => j = b4) wk (setL wk b4 0 (n.cells (.slice adN (n.names.eraseIdx p).length capN) (.slice adK (n.kids.eraseIdx p).length capK))) := (ExcP.refl (fun j => j = b4) wk).setL (S := fun j => j = b4) rfl _ _
    refine EndV.mk fun w' hw' => ⟨_, rfl, ⟨.slice adN (n.names.eraseIdx p).length capN, .slice adK (n.kids.eraseIdx p).length capK, gN, gK, rfl, ?_, ?_, hI.ne⟩, (hxk.trans' (hX4.below hxk.size fun j hj e => by omega)).trans hw'⟩
    · exact ((hI.bn.exc hX4 (fun hc e => by have := (hI.bn.blk hc).1; omega) (Nat.le_refl _) hX4.size).ext hw' hw'.size).low (by omega)
    · exact ((hI.bk.exc hX4 (fun hc e => by have := (hI.bk.blk hc).1; omega) (Nat.le_refl _) hX4.size).ext hw' hw'.size).low (by omega)
end Go.Proofs.YtbnjjpgacemicaaGreatDoor
