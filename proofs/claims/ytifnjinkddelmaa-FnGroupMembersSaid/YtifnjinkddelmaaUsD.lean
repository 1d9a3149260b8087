/-
  The draws of users.
  Conditions: none.
-/
import Derived.Test.YtifnjinkddelmaaRdV
import Derived.Test.YtifnjinkddelmaaUsr
namespace Go.Proofs.Ytifnjinkddelmaa
open Go.RowKit Vc
set_option linter.unusedVariables false
set_option maxHeartbeats 1000000
attribute [local irreducible] WpC WpL WpD WpE WpB CallV QCallV Made AppV Ld LdN Ix EndV I64 MutN Mut CellsAt

/-- Cells of users, one after the other. -/
@[reducible] def ucells (us : List Us) : List Value := us.flatMap Us.cells
theorem ucells_length (us : List Us) : (ucells us).length = us.length * 3 := by
  induction us with
  | nil => rfl
  | cons u r ih => simp only [ucells, List.flatMap_cons, List.length_append, List.length_cons, List.length_nil] at ih ⊢; omega
theorem ucells_at {w : World} {b : Nat} {us : List Us} : ∀ {o : Nat}, CellsAt w b o (ucells us) → ∀ i u, us[i]? = some u → CellsAt w b (o + i * 3) u.cells := by
  induction us with
  | nil => intro o _ i u h; simp at h
  | cons v r ih =>
    intro o h i u hi
    have h' : CellsAt w b o (v.cells ++ ucells r) := h
    cases i with
    | zero => simp at hi; subst hi; simpa using h'.left
    | succ i =>
      have := ih h'.right i u (by simpa using hi)
      rw [show o + v.cells.length + i * 3 = o + (i + 1) * 3 by show o + 3 + i * 3 = _; omega] at this
      exact this
theorem Vc.Buf.uss {B : Nat} {w : World} {ad : Option Addr} {cap : Nat} {us : List Us} (h : Buf B w ad us.length cap 3 (ucells us)) : Uss w (.slice ad us.length cap) us := by
  refine ⟨ad, cap, by rw [List.length_map], by rw [List.length_map]; exact h.le, h.max, fun h0 => ?_⟩
  cases ad with
  | none => have := h.nil rfl; have := h.le; rw [List.length_map] at h0; omega
  | some p =>
    obtain ⟨g, h1, _, h3, _, h5⟩ := h.at_ p rfl
    refine ⟨g, 0, by rw [h1], h3, fun i l hi => ?_⟩
    rw [List.getElem?_map] at hi
    cases hu : us[i]? with
    | none => rw [hu] at hi; cases hi
    | some u => rw [hu] at hi; cases hi; exact ⟨ucells_at h5 i u hu, rfl⟩
theorem Vc.Buf.exc {S : Nat → Prop} {B : Nat} {w w' : World} {ad : Option Addr} {n cap sz : Nat} {xs : List Value} (h : Buf B w ad n cap sz xs) (hX : ExcP S w w') (hS : ∀ j, B ≤ j → ¬ S j) : Buf B w' ad n cap sz xs :=
  ⟨h.le, h.max, h.len, h.nil, fun p hp => let ⟨g, h1, h2, h3, h4, h5⟩ := h.at_ p hp; ⟨g, h1, h2, Nat.lt_of_lt_of_le h3 hX.size, h4.exc h3 hX (hS g h2), h5.exc h3 hX (hS g h2)⟩⟩
def Us.small (u : Us) : Prop := u.name.size ≤ 1 ∧ (-1 ≤ u.num ∧ u.num ≤ 200) ∧ (0 ≤ u.grp ∧ u.grp ≤ 256)
theorem wf_i64 {n : Int} (h0 : -9223372036854775808 ≤ n) (h1 : n ≤ 9223372036854775807) : (Lit.int .i64 n).wf = true := by
  have e1 : IntKind.i64.min = -9223372036854775808 := by decide
  have e2 : IntKind.i64.max = 9223372036854775807 := by decide
  simp only [Lit.wf, e1, e2, Bool.and_eq_true, decide_eq_true_eq]
  exact ⟨h0, h1⟩
theorem Us.small.wf {u : Us} (h : u.small) : u.wf := by
  obtain ⟨h1, h2, h3⟩ := h
  exact ⟨by omega, wf_i64 (by omega) (by omega), wf_i64 (by omega) (by omega)⟩

/-- Users that are drawn, the reader asked again. -/
def PkU (c : Nat) (g p : Nat) (w : World) (e : Ending) (w' : World) : Prop :=
  ∃ (ad : Option Addr) (cap : Nat) (us : List Us) (p' : Nat), e = .returned (.slice ad us.length cap) ∧ us.length ≤ 5 ∧ (∀ u ∈ us, u.small) ∧ Buf w.heap.size w' ad us.length cap 3 (ucells us) ∧ p' ≤ p + c ∧ Rd w' g p' ∧ w.grownBy w' (some g)

theorem five {w : World} {b : Nat} (h : CellsAt w b 0 (ucells [⟨⟨#[]⟩, 0, 0⟩, ⟨⟨#[122]⟩, 100, 0⟩, ⟨⟨#[122]⟩, -1, 0⟩, ⟨⟨#[122]⟩, 90, 256⟩, ⟨⟨#[97]⟩, 90, 0⟩])) {j : Nat} (hj : (j : Int) < 5) : ∃ u : Us, u.small ∧ CellsAt w b (0 + j * 3) u.cells := by
  have h' : j = 0 ∨ j = 1 ∨ j = 2 ∨ j = 3 ∨ j = 4 := by omega
  rcases h' with rfl | rfl | rfl | rfl | rfl
  all_goals exact ⟨_, by unfold Us.small; decide, ucells_at h _ _ rfl⟩
theorem hchar {w : World} {b k : Nat} (h : CellsAt w b 0 [.int .u8 (97 + (k : Int))]) (hk : k ≤ 5 := by omega) : CellsAt w b 0 ([UInt8.ofNat (97 + k)].map fun c => .int .u8 (c.toNat : Int)) := by
  have e : (UInt8.ofNat (97 + k)).toNat = 97 + k := by simp; omega
  simp only [List.map_cons, List.map_nil, e]
  have e2 : ((97 + k : Nat) : Int) = 97 + (k : Int) := by omega
  rw [e2]; exact h
theorem grown_below_trans {w A A' : World} {g : Nat} (h : w.grownBy A (some g)) (k : Below w.heap.size A A') : w.grownBy A' (some g) :=
  ⟨k.os.trans h.os, k.tape.trans h.tape, k.output.trans h.output, Nat.le_trans h.size k.size, fun i hi hne => (k.block i hi).trans (h.block i hi hne)⟩
theorem users_vc (g p : Nat) (n : Int) (w : World) (h : Rd w g p) (hp : p < 99000) (n0 : 0 ≤ n) (n1 : n < 1000000) :
    Calls Try.prog 74 #[.pointer (some ⟨g, 0, none⟩), .int .i64 n] w (PkU 20 g p w) := by
  have hgw := h.lt
  refine calls_of cx_ok Try.func74 Try.ntmps74 Try.results74 rfl rfl ?_
  repeat (first | refine jC ?_ | refine jN ?_ | refine jS ?_ | refine jR ?_ | refine jT ?_ | refine jB ?_ | refine jX rfl ?_ | refine jY rfl ?_ | refine jK ?_ | refine jD ?_ | refine jE ?_)
  refine Made.mk fun g0 w0 hx0 hg01 hg02 hg03 _ => ?_
  repeat (first | refine jC ?_ | refine jN ?_ | refine jS ?_ | refine jR ?_ | refine jT ?_ | refine jB ?_ | refine jX rfl ?_ | refine jY rfl ?_ | refine jK ?_ | refine jD ?_ | refine jE ?_)
  refine CallV.pick (g := g) trivial (by omega) (fun w' hw _ => pick_any g _ 2 w' ((h.below hx0).below hw) (by omega) (by omega)) (fun num0 wa w1 hxa hnum hR1 hg1 => ?_)
  repeat (first | refine jC ?_ | refine jN ?_ | refine jS ?_ | refine jR ?_ | refine jT ?_ | refine jB ?_ | refine jX rfl ?_ | refine jY rfl ?_ | refine jK ?_ | refine jD ?_ | refine jE ?_)
  refine CallV.pick (g := g) trivial (by omega) (fun w' hw _ => pick_any g _ 5 w' (hR1.below hw) (by omega) (by omega)) (fun m wb w2 hxb hm hR2 hg2 => ?_)
  repeat (first | refine jC ?_ | refine jN ?_ | refine jS ?_ | refine jR ?_ | refine jT ?_ | refine jB ?_ | refine jX rfl ?_ | refine jY rfl ?_ | refine jK ?_ | refine jD ?_ | refine jE ?_)
  have hG2 : w.grownBy w2 (some g) := grown_trans (below_grown hx0) (grown_trans (ext_grown hxa hg1) (ext_grown hxb hg2))
  have hB0 : Buf w.heap.size w0 (some ⟨g0, 0, none⟩) 0 0 3 (ucells []) := Buf.made hg01 hg02 hg03 0 rfl (by omega)
  have hB2 := (hB0.exc (ExcP.grown (S := fun j => j = g) (ext_grown hxa hg1) rfl) (by intro j h1 h2; omega)).exc (ExcP.grown (S := fun j => j = g) (ext_grown hxb hg2) rfl) (by intro j h1 h2; omega)
  refine WpC.loop (α := Nat × List Us × Option Addr × Nat × Int × Nat × World) (fun x => ⟨[(0, .v (.pointer (some ⟨g, 0, none⟩))), (1, .v (.int .i64 n)), (5, .v (.slice x.2.2.1 x.2.1.length x.2.2.2.1)), (6, .v (.int .i64 x.2.2.2.2.1)), (7, .v (.int .i64 (x.1 : Int)))], [], x.2.2.2.2.2.2⟩)
    (fun x => x.1 + x.2.1.length ≤ 4 ∧ (∀ u ∈ x.2.1, u.small) ∧ (0 ≤ x.2.2.2.2.1 ∧ x.2.2.2.2.1 ≤ 10 + 10 * (x.2.1.length : Int)) ∧ x.2.2.2.2.2.1 ≤ p + 2 + 2 * x.2.1.length ∧ Buf w.heap.size x.2.2.2.2.2.2 x.2.2.1 x.2.1.length x.2.2.2.1 3 (ucells x.2.1) ∧ Rd x.2.2.2.2.2.2 g x.2.2.2.2.2.1 ∧ w.grownBy x.2.2.2.2.2.2 (some g)) (fun x => x.1)
    (m, [], some ⟨g0, 0, none⟩, 0, (num0 : Int), p + 1 + 1, w2) ⟨by simp; omega, by simp, ⟨by simp, by simp; omega⟩, by simp, hB2, hR2, hG2⟩ ⟨⟨rfl, rfl, rfl, rfl, rfl, trivial⟩, trivial, trivial, Vc.Ext.refl _⟩ ?_
  rintro ⟨k, us, ad, cap, num, pk, wk⟩ ⟨hk, hsm, hnu, hpk, hB, hR, hG⟩
  dsimp only at hk hsm hnu hpk hB hR hG ⊢
  repeat (first | refine jC ?_ | refine jN ?_ | refine jS ?_ | refine jR ?_ | refine jT ?_ | refine jB ?_ | refine jX rfl ?_ | refine jY rfl ?_ | refine jK ?_ | refine jD ?_ | refine jE ?_)
  refine Br.intro (fun hk0 => ?_) (fun hk0 => ?_)
  · have hk1 : 1 ≤ k := by have := of_decide_eq_true hk0; omega
    repeat (first | refine jC ?_ | refine jN ?_ | refine jS ?_ | refine jR ?_ | refine jT ?_ | refine jB ?_ | refine jX rfl ?_ | refine jY rfl ?_ | refine jK ?_ | refine jD ?_ | refine jE ?_)
    refine WpC.drawD (fun w' => w.grownBy w' (some g)) (fun w' hw => grown_ext hG hw) (.st 0 (.st 1 (.st 2 (.st 3 (.st 4 (.st 7 (.st 8 (.ef 5 (.ef 6 (.ef 9 (.st 10 (.ef 11 (.ef 12 (.st 13 .done) .done) .done)) .done) (.ef 9 (.ef 6 (.st 10 (.ef 11 (.ef 12 (.st 13 .done) .done) .done)) .done) .done)) (.ef 9 (.ef 5 (.ef 6 (.st 10 (.ef 11 (.ef 12 (.st 13 .done) .done) .done)) .done) .done) .done))))))))) [(0, .mv), (1, .mv), (5, .ef), (6, .ef), (7, .mv), (8, .mv), (9, .ef), (11, .ef), (12, .ef), (13, .mv)] (by kernel_rfl) ?_
    refine uM ?_
    refine uM ?_
    refine WpE.rdD (by exact rfl) (by exact rfl) ?_
    refine ⟨_, fun w' hw => rfl, ?_⟩
    refine WpE.rdD (by exact rfl) (by exact rfl) ?_
    refine ⟨_, fun w' hw => ⟨I64.mk (by omega), rfl⟩, ?_⟩
    refine WpE.rdD (by exact rfl) (by exact rfl) ?_
    refine ⟨_, fun w' hw => ⟨⟨by omega, by omega⟩, rfl⟩, ?_⟩
    refine uM ?_
    refine uM ?_
    refine WpE.ef2 (by exact rfl) (by exact rfl) ?_ ?_
    · refine Made.mk fun gm wm hxm hm1 hm2 hm3 _ => ?_
      have hC := Fr.of_block (S := fun j => j = g) (cs := [.int .u8 (97 + (us.length : Int))]) hm3 hm2 (by have := hR.lt; omega)
      replace hR := hR.below hxm
      replace hB := hB.ext hxm
      replace hG := grown_ext hG hxm
      clear hxm hm3 hm1
      refine ⟨Keep.mk fun w' hw => grown_ext hG hw, ?_⟩
      refine WpE.ef2 (by exact rfl) (by exact rfl) ?_ ?_
      · refine ⟨[UInt8.ofNat (97 + us.length)], rfl, hchar hC.cells, ?_⟩
        clear hC
        refine ⟨Keep.mk fun w' hw => grown_ext hG hw, ?_⟩
        refine uE ?_
        refine CallV.pick (g := g) trivial (by omega) (fun w' hw _ => pick_any g _ 256 w' (hR.below hw) (by omega) (by omega)) (fun q wq wr hxq hq hR' hg' => ?_)
        have hX := ExcP.grown (S := fun j => j = g) (ext_grown hxq hg') rfl
        replace hB := hB.exc hX (by intro j h1 h2; omega)
        try replace hC := hC.exc hX
        replace hR := hR'
        replace hG := grown_trans hG (ext_grown hxq hg')
        clear hX hR' hg' hxq
        refine ⟨Keep.mk fun w' hw => grown_ext hG hw, ?_⟩
        refine WpE.rdD (by exact rfl) (by exact rfl) ?_
        refine ⟨_, fun w' hw => rfl, ?_⟩
        refine uE ?_
        refine Made.mk fun gm wm hxm hm1 hm2 hm3 _ => ?_
        have hU := CellsAt.of_block (o := 0) (m := ucells [⟨⟨#[UInt8.ofNat (97 + us.length)]⟩, num, (q : Int)⟩]) hm3 (fun i v hi => by rw [Nat.zero_add]; exact hi)
        replace hR := hR.below hxm
        replace hB := hB.ext hxm
        replace hG := grown_ext hG hxm
        clear hxm hm3 hm1
        refine ⟨Keep.mk fun w' hw => grown_ext hG hw, ?_⟩
        refine uE ?_
        refine AppV.buf hB hU rfl (by simp [Value.oneCell']) (fun p _ => trivial) (by omega) (by omega) rfl hG.size (fun ad' cap' A' hB' hbl hoth => ?_)
        have hg' : (w.grownBy A' (some g)) := grown_below_trans hG hbl
        replace hR := hR.keep (fun k hk => hbl.block k (by omega))
        replace hG := hg'
        clear hB hU hoth hg'
        refine ⟨Keep.mk fun w' hw => grown_ext hG hw, ?_⟩
        refine uM ?_
        refine uD ?_
        repeat (first | refine jC ?_ | refine jN ?_ | refine jS ?_ | refine jR ?_ | refine jT ?_ | refine jB ?_ | refine jX rfl ?_ | refine jY rfl ?_ | refine jK ?_ | refine jD ?_ | refine jE ?_)
        refine ⟨I64.mk (by omega), ?_⟩
        repeat (first | refine jC ?_ | refine jN ?_ | refine jS ?_ | refine jR ?_ | refine jT ?_ | refine jB ?_ | refine jX rfl ?_ | refine jY rfl ?_ | refine jK ?_ | refine jD ?_ | refine jE ?_)
        refine CallV.pick (g := g) trivial (by omega) (fun w' hw _ => pick_any g _ 5 w' (hR.below hw) (by omega) (by omega)) (fun d wy wz hxy hd hRz hgz => ?_)
        repeat (first | refine jC ?_ | refine jN ?_ | refine jS ?_ | refine jR ?_ | refine jT ?_ | refine jB ?_ | refine jX rfl ?_ | refine jY rfl ?_ | refine jK ?_ | refine jD ?_ | refine jE ?_)
        refine ⟨I64.mk (by omega), ?_⟩
        repeat (first | refine jC ?_ | refine jN ?_ | refine jS ?_ | refine jR ?_ | refine jT ?_ | refine jB ?_ | refine jX rfl ?_ | refine jY rfl ?_ | refine jK ?_ | refine jD ?_ | refine jE ?_)
        refine ⟨I64.mk (by omega), ?_⟩
        repeat (first | refine jC ?_ | refine jN ?_ | refine jS ?_ | refine jR ?_ | refine jT ?_ | refine jB ?_ | refine jX rfl ?_ | refine jY rfl ?_ | refine jK ?_ | refine jD ?_ | refine jE ?_)
        obtain ⟨k', rfl⟩ : ∃ k', k = k' + 1 := ⟨k - 1, by omega⟩
        exact ⟨(k', us ++ [⟨⟨#[UInt8.ofNat (97 + us.length)]⟩, num, (q : Int)⟩], ad', cap', num + 1 + (d : Int), _, wz), ⟨by dsimp only; rw [List.length_append]; simp; omega, fun u hu => by
            rcases List.mem_append.1 hu with h | h
            · exact hsm u h
            · rw [List.mem_singleton.1 h]; exact ⟨Nat.le_refl _, by show -1 ≤ num ∧ num ≤ 200; omega, by show (0 : Int) ≤ (q : Int) ∧ (q : Int) ≤ 256; omega⟩, by dsimp only; rw [List.length_append]; simp; omega, by dsimp only; rw [List.length_append]; simp; omega, (by
              have hB3 := hB'.exc (ExcP.grown (S := fun j => j = g) (ext_grown hxy hgz) rfl) (by intro j h1 h2; omega)
              dsimp only
              rw [List.length_append]
              simpa [ucells] using hB3), hRz, grown_trans hG (ext_grown hxy hgz)⟩, by show k' < k' + 1; omega, ⟨rfl, rfl, by dsimp only; rw [List.length_append]; rfl, rfl, by show some _ = some _; congr 4; omega, trivial⟩, trivial, trivial, Vc.Ext.refl _⟩
      · refine uE ?_
        refine CallV.pick (g := g) trivial (by omega) (fun w' hw _ => pick_any g _ 256 w' (hR.below hw) (by omega) (by omega)) (fun q wq wr hxq hq hR' hg' => ?_)
        have hX := ExcP.grown (S := fun j => j = g) (ext_grown hxq hg') rfl
        replace hB := hB.exc hX (by intro j h1 h2; omega)
        try replace hC := hC.exc hX
        replace hR := hR'
        replace hG := grown_trans hG (ext_grown hxq hg')
        clear hX hR' hg' hxq
        refine ⟨Keep.mk fun w' hw => grown_ext hG hw, ?_⟩
        refine uE ?_
        refine ⟨[UInt8.ofNat (97 + us.length)], rfl, hchar hC.cells, ?_⟩
        clear hC
        refine ⟨Keep.mk fun w' hw => grown_ext hG hw, ?_⟩
        refine WpE.rdD (by exact rfl) (by exact rfl) ?_
        refine ⟨_, fun w' hw => rfl, ?_⟩
        refine uE ?_
        refine Made.mk fun gm wm hxm hm1 hm2 hm3 _ => ?_
        have hU := CellsAt.of_block (o := 0) (m := ucells [⟨⟨#[UInt8.ofNat (97 + us.length)]⟩, num, (q : Int)⟩]) hm3 (fun i v hi => by rw [Nat.zero_add]; exact hi)
        replace hR := hR.below hxm
        replace hB := hB.ext hxm
        replace hG := grown_ext hG hxm
        clear hxm hm3 hm1
        refine ⟨Keep.mk fun w' hw => grown_ext hG hw, ?_⟩
        refine uE ?_
        refine AppV.buf hB hU rfl (by simp [Value.oneCell']) (fun p _ => trivial) (by omega) (by omega) rfl hG.size (fun ad' cap' A' hB' hbl hoth => ?_)
        have hg' : (w.grownBy A' (some g)) := grown_below_trans hG hbl
        replace hR := hR.keep (fun k hk => hbl.block k (by omega))
        replace hG := hg'
        clear hB hU hoth hg'
        refine ⟨Keep.mk fun w' hw => grown_ext hG hw, ?_⟩
        refine uM ?_
        refine uD ?_
        repeat (first | refine jC ?_ | refine jN ?_ | refine jS ?_ | refine jR ?_ | refine jT ?_ | refine jB ?_ | refine jX rfl ?_ | refine jY rfl ?_ | refine jK ?_ | refine jD ?_ | refine jE ?_)
        refine ⟨I64.mk (by omega), ?_⟩
        repeat (first | refine jC ?_ | refine jN ?_ | refine jS ?_ | refine jR ?_ | refine jT ?_ | refine jB ?_ | refine jX rfl ?_ | refine jY rfl ?_ | refine jK ?_ | refine jD ?_ | refine jE ?_)
        refine CallV.pick (g := g) trivial (by omega) (fun w' hw _ => pick_any g _ 5 w' (hR.below hw) (by omega) (by omega)) (fun d wy wz hxy hd hRz hgz => ?_)
        repeat (first | refine jC ?_ | refine jN ?_ | refine jS ?_ | refine jR ?_ | refine jT ?_ | refine jB ?_ | refine jX rfl ?_ | refine jY rfl ?_ | refine jK ?_ | refine jD ?_ | refine jE ?_)
        refine ⟨I64.mk (by omega), ?_⟩
        repeat (first | refine jC ?_ | refine jN ?_ | refine jS ?_ | refine jR ?_ | refine jT ?_ | refine jB ?_ | refine jX rfl ?_ | refine jY rfl ?_ | refine jK ?_ | refine jD ?_ | refine jE ?_)
        refine ⟨I64.mk (by omega), ?_⟩
        repeat (first | refine jC ?_ | refine jN ?_ | refine jS ?_ | refine jR ?_ | refine jT ?_ | refine jB ?_ | refine jX rfl ?_ | refine jY rfl ?_ | refine jK ?_ | refine jD ?_ | refine jE ?_)
        obtain ⟨k', rfl⟩ : ∃ k', k = k' + 1 := ⟨k - 1, by omega⟩
        exact ⟨(k', us ++ [⟨⟨#[UInt8.ofNat (97 + us.length)]⟩, num, (q : Int)⟩], ad', cap', num + 1 + (d : Int), _, wz), ⟨by dsimp only; rw [List.length_append]; simp; omega, fun u hu => by
            rcases List.mem_append.1 hu with h | h
            · exact hsm u h
            · rw [List.mem_singleton.1 h]; exact ⟨Nat.le_refl _, by show -1 ≤ num ∧ num ≤ 200; omega, by show (0 : Int) ≤ (q : Int) ∧ (q : Int) ≤ 256; omega⟩, by dsimp only; rw [List.length_append]; simp; omega, by dsimp only; rw [List.length_append]; simp; omega, (by
              have hB3 := hB'.exc (ExcP.grown (S := fun j => j = g) (ext_grown hxy hgz) rfl) (by intro j h1 h2; omega)
              dsimp only
              rw [List.length_append]
              simpa [ucells] using hB3), hRz, grown_trans hG (ext_grown hxy hgz)⟩, by show k' < k' + 1; omega, ⟨rfl, rfl, by dsimp only; rw [List.length_append]; rfl, rfl, by show some _ = some _; congr 4; omega, trivial⟩, trivial, trivial, Vc.Ext.refl _⟩
    · refine uE ?_
      refine CallV.pick (g := g) trivial (by omega) (fun w' hw _ => pick_any g _ 256 w' (hR.below hw) (by omega) (by omega)) (fun q wq wr hxq hq hR' hg' => ?_)
      have hX := ExcP.grown (S := fun j => j = g) (ext_grown hxq hg') rfl
      replace hB := hB.exc hX (by intro j h1 h2; omega)
      try replace hC := hC.exc hX
      replace hR := hR'
      replace hG := grown_trans hG (ext_grown hxq hg')
      clear hX hR' hg' hxq
      refine ⟨Keep.mk fun w' hw => grown_ext hG hw, ?_⟩
      refine uE ?_
      refine Made.mk fun gm wm hxm hm1 hm2 hm3 _ => ?_
      have hC := Fr.of_block (S := fun j => j = g) (cs := [.int .u8 (97 + (us.length : Int))]) hm3 hm2 (by have := hR.lt; omega)
      replace hR := hR.below hxm
      replace hB := hB.ext hxm
      replace hG := grown_ext hG hxm
      clear hxm hm3 hm1
      refine ⟨Keep.mk fun w' hw => grown_ext hG hw, ?_⟩
      refine uE ?_
      refine ⟨[UInt8.ofNat (97 + us.length)], rfl, hchar hC.cells, ?_⟩
      clear hC
      refine ⟨Keep.mk fun w' hw => grown_ext hG hw, ?_⟩
      refine WpE.rdD (by exact rfl) (by exact rfl) ?_
      refine ⟨_, fun w' hw => rfl, ?_⟩
      refine uE ?_
      refine Made.mk fun gm wm hxm hm1 hm2 hm3 _ => ?_
      have hU := CellsAt.of_block (o := 0) (m := ucells [⟨⟨#[UInt8.ofNat (97 + us.length)]⟩, num, (q : Int)⟩]) hm3 (fun i v hi => by rw [Nat.zero_add]; exact hi)
      replace hR := hR.below hxm
      replace hB := hB.ext hxm
      replace hG := grown_ext hG hxm
      clear hxm hm3 hm1
      refine ⟨Keep.mk fun w' hw => grown_ext hG hw, ?_⟩
      refine uE ?_
      refine AppV.buf hB hU rfl (by simp [Value.oneCell']) (fun p _ => trivial) (by omega) (by omega) rfl hG.size (fun ad' cap' A' hB' hbl hoth => ?_)
      have hg' : (w.grownBy A' (some g)) := grown_below_trans hG hbl
      replace hR := hR.keep (fun k hk => hbl.block k (by omega))
      replace hG := hg'
      clear hB hU hoth hg'
      refine ⟨Keep.mk fun w' hw => grown_ext hG hw, ?_⟩
      refine uM ?_
      refine uD ?_
      repeat (first | refine jC ?_ | refine jN ?_ | refine jS ?_ | refine jR ?_ | refine jT ?_ | refine jB ?_ | refine jX rfl ?_ | refine jY rfl ?_ | refine jK ?_ | refine jD ?_ | refine jE ?_)
      refine ⟨I64.mk (by omega), ?_⟩
      repeat (first | refine jC ?_ | refine jN ?_ | refine jS ?_ | refine jR ?_ | refine jT ?_ | refine jB ?_ | refine jX rfl ?_ | refine jY rfl ?_ | refine jK ?_ | refine jD ?_ | refine jE ?_)
      refine CallV.pick (g := g) trivial (by omega) (fun w' hw _ => pick_any g _ 5 w' (hR.below hw) (by omega) (by omega)) (fun d wy wz hxy hd hRz hgz => ?_)
      repeat (first | refine jC ?_ | refine jN ?_ | refine jS ?_ | refine jR ?_ | refine jT ?_ | refine jB ?_ | refine jX rfl ?_ | refine jY rfl ?_ | refine jK ?_ | refine jD ?_ | refine jE ?_)
      refine ⟨I64.mk (by omega), ?_⟩
      repeat (first | refine jC ?_ | refine jN ?_ | refine jS ?_ | refine jR ?_ | refine jT ?_ | refine jB ?_ | refine jX rfl ?_ | refine jY rfl ?_ | refine jK ?_ | refine jD ?_ | refine jE ?_)
      refine ⟨I64.mk (by omega), ?_⟩
      repeat (first | refine jC ?_ | refine jN ?_ | refine jS ?_ | refine jR ?_ | refine jT ?_ | refine jB ?_ | refine jX rfl ?_ | refine jY rfl ?_ | refine jK ?_ | refine jD ?_ | refine jE ?_)
      obtain ⟨k', rfl⟩ : ∃ k', k = k' + 1 := ⟨k - 1, by omega⟩
      exact ⟨(k', us ++ [⟨⟨#[UInt8.ofNat (97 + us.length)]⟩, num, (q : Int)⟩], ad', cap', num + 1 + (d : Int), _, wz), ⟨by dsimp only; rw [List.length_append]; simp; omega, fun u hu => by
          rcases List.mem_append.1 hu with h | h
          · exact hsm u h
          · rw [List.mem_singleton.1 h]; exact ⟨Nat.le_refl _, by show -1 ≤ num ∧ num ≤ 200; omega, by show (0 : Int) ≤ (q : Int) ∧ (q : Int) ≤ 256; omega⟩, by dsimp only; rw [List.length_append]; simp; omega, by dsimp only; rw [List.length_append]; simp; omega, (by
            have hB3 := hB'.exc (ExcP.grown (S := fun j => j = g) (ext_grown hxy hgz) rfl) (by intro j h1 h2; omega)
            dsimp only
            rw [List.length_append]
            simpa [ucells] using hB3), hRz, grown_trans hG (ext_grown hxy hgz)⟩, by show k' < k' + 1; omega, ⟨rfl, rfl, by dsimp only; rw [List.length_append]; rfl, rfl, by show some _ = some _; congr 4; omega, trivial⟩, trivial, trivial, Vc.Ext.refl _⟩
  · repeat (first | refine jC ?_ | refine jN ?_ | refine jS ?_ | refine jR ?_ | refine jT ?_ | refine jB ?_ | refine jX rfl ?_ | refine jY rfl ?_ | refine jK ?_ | refine jD ?_ | refine jE ?_)
    refine CallV.pkB (g := g) trivial (fun w' hw _ => odd_any g _ n w' (hR.below hw) (by omega) n0 n1) (fun b p3 wa3 w3 hx3 hp3 hR3 hg3 => ?_)
    have hX3 := ExcP.grown (S := fun j => j = g) (ext_grown hx3 hg3) rfl
    have hB3 := hB.exc hX3 (by intro j h1 h2; omega)
    have hG3 := grown_trans hG (ext_grown hx3 hg3)
    repeat (first | refine jC ?_ | refine jN ?_ | refine jS ?_ | refine jR ?_ | refine jT ?_ | refine jB ?_ | refine jX rfl ?_ | refine jY rfl ?_ | refine jK ?_ | refine jD ?_ | refine jE ?_)
    cases b
    · repeat (first | refine jC ?_ | refine jN ?_ | refine jS ?_ | refine jR ?_ | refine jT ?_ | refine jB ?_ | refine jX rfl ?_ | refine jY rfl ?_ | refine jK ?_ | refine jD ?_ | refine jE ?_)
      exact EndV.mk fun w' hw' => ⟨ad, cap, us, p3, rfl, by omega, hsm, hB3.ext hw', by omega, hR3.below hw', grown_ext hG3 hw'⟩
    · repeat (first | refine jC ?_ | refine jN ?_ | refine jS ?_ | refine jR ?_ | refine jT ?_ | refine jB ?_ | refine jX rfl ?_ | refine jY rfl ?_ | refine jK ?_ | refine jD ?_ | refine jE ?_)
      refine Made.mk fun g5 w5 hx5 hg51 hg52 hg53 _ => ?_
      have hL5 : CellsAt w5 g5 0 (ucells [⟨⟨#[]⟩, 0, 0⟩, ⟨⟨#[122]⟩, 100, 0⟩, ⟨⟨#[122]⟩, -1, 0⟩, ⟨⟨#[122]⟩, 90, 256⟩, ⟨⟨#[97]⟩, 90, 0⟩]) := CellsAt.of_block hg53 fun i v hi => by rw [Nat.zero_add]; exact hi
      repeat (first | refine jC ?_ | refine jN ?_ | refine jS ?_ | refine jR ?_ | refine jT ?_ | refine jB ?_ | refine jX rfl ?_ | refine jY rfl ?_ | refine jK ?_ | refine jD ?_ | refine jE ?_)
      refine CallV.pick (g := g) trivial (by omega) (fun w' hw _ => pick_any g _ 5 w' ((hR3.below hx5).below hw) (by omega) (by omega)) (fun j wa6 w6 hx6 hj hR6 hg6 => ?_)
      have hX6 := ExcP.grown (S := fun j => j = g) (ext_grown hx6 hg6) rfl
      have hL6 := hL5.exc hg52 hX6 (by have := hR3.lt; show ¬ g5 = g; omega)
      obtain ⟨u, hus, hu⟩ := five hL6 hj
      have hB6 := (hB3.ext hx5).exc hX6 (by intro j h1 h2; omega)
      have hG6 := grown_trans (grown_ext hG3 hx5) (ext_grown hx6 hg6)
      repeat (first | refine jC ?_ | refine jN ?_ | refine jS ?_ | refine jR ?_ | refine jT ?_ | refine jB ?_ | refine jX rfl ?_ | refine jY rfl ?_ | refine jK ?_ | refine jD ?_ | refine jE ?_)
      refine Ix.mk j rfl (by omega) ?_
      repeat (first | refine jC ?_ | refine jN ?_ | refine jS ?_ | refine jR ?_ | refine jT ?_ | refine jB ?_ | refine jX rfl ?_ | refine jY rfl ?_ | refine jK ?_ | refine jD ?_ | refine jE ?_)
      refine LdN.mk hu rfl ?_
      repeat (first | refine jC ?_ | refine jN ?_ | refine jS ?_ | refine jR ?_ | refine jT ?_ | refine jB ?_ | refine jX rfl ?_ | refine jY rfl ?_ | refine jK ?_ | refine jD ?_ | refine jE ?_)
      refine Made.mk fun g7 w7 hx7 hg71 hg72 hg73 _ => ?_
      have hL7 : CellsAt w7 g7 0 (ucells [u]) := CellsAt.of_block hg73 fun i v hi => by rw [Nat.zero_add]; exact hi
      repeat (first | refine jC ?_ | refine jN ?_ | refine jS ?_ | refine jR ?_ | refine jT ?_ | refine jB ?_ | refine jX rfl ?_ | refine jY rfl ?_ | refine jK ?_ | refine jD ?_ | refine jE ?_)
      refine AppV.buf (hB6.ext hx7) hL7 rfl (by simp [Value.oneCell']) (fun p _ => trivial) (by omega) (by omega) rfl (grown_ext hG6 hx7).size (fun ad' cap' A' hB' hbl hoth => ?_)
      have hG8 := grown_below_trans (grown_ext hG6 hx7) hbl
      have hR8 := (hR6.below hx7).keep (fun k hk => hbl.block k (by omega))
      repeat (first | refine jC ?_ | refine jN ?_ | refine jS ?_ | refine jR ?_ | refine jT ?_ | refine jB ?_ | refine jX rfl ?_ | refine jY rfl ?_ | refine jK ?_ | refine jD ?_ | refine jE ?_)
      refine EndV.mk fun w' hw' => ⟨ad', cap', us ++ [u], p3 + 1, by rw [List.length_append]; rfl, by rw [List.length_append]; simp; omega, fun x hx => by
        rcases List.mem_append.1 hx with h | h
        · exact hsm x h
        · rw [List.mem_singleton.1 h]; exact hus, ?_, by omega, hR8.below hw', grown_ext hG8 hw'⟩
      have := hB'.ext hw'
      rw [List.length_append]
      simpa [ucells] using this
end Go.Proofs.Ytifnjinkddelmaa
