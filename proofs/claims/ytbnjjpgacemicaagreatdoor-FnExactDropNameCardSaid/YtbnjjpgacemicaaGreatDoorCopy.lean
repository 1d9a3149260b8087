/-
  Contracts: copies of trees, the program's and the reference's.
  Conditions: bounds.
-/
import Derived.Test.YtbnjjpgacemicaaGreatDoorClone
import Derived.Test.YtbnjjpgacemicaaGreatDoorFind
import Derived.Test.YtbnjjpgacemicaaGreatDoorVcP
namespace Go.Proofs.YtbnjjpgacemicaaGreatDoor
open Go.RowKit Vc
set_option linter.unusedVariables false
set_option maxHeartbeats 1000000
attribute [local irreducible] WpC WpL WpD WpE WpB CallV QCallV Made AppV Ld LdN Ix EndV I64 MutN Mut CellsAt

/-- The cells of nodes, one after the other. -/
def flat : List Nd → (Nat → Bool → Value) → Nat → List Value
  | [], _, _ => []
  | n :: r, pv, i => n.cells (pv i true) (pv i false) ++ flat r pv (i + 1)
theorem flat_length (ts : List Nd) (pv : Nat → Bool → Value) : ∀ i, (flat ts pv i).length = ts.length * 7 := by
  induction ts with
  | nil => intro i; rfl
  | cons n r ih => intro i; rw [flat, List.length_append, ih]; show 7 + r.length * 7 = (r.length + 1) * 7; omega
theorem flat_snoc (ts : List Nd) (n : Nd) (pv : Nat → Bool → Value) : ∀ i, flat (ts ++ [n]) pv i = flat ts pv i ++ n.cells (pv (i + ts.length) true) (pv (i + ts.length) false) := by
  induction ts with
  | nil => intro i; simp [flat]
  | cons m r ih => intro i; rw [List.cons_append, flat, ih, flat, List.append_assoc, List.length_cons, show i + 1 + r.length = i + (r.length + 1) by omega]
theorem flat_congr {ts : List Nd} {pv pv' : Nat → Bool → Value} : ∀ {i}, (∀ j b, i ≤ j → j < i + ts.length → pv j b = pv' j b) → flat ts pv i = flat ts pv' i := by
  induction ts with
  | nil => intro i _; rfl
  | cons n r ih =>
    intro i h
    rw [flat, flat, h i true (Nat.le_refl _) (by simp), h i false (Nat.le_refl _) (by simp), ih fun j b h1 h2 => h j b (by omega) (by simp; omega)]
theorem flat_cells {w : World} {g o : Nat} {pv : Nat → Bool → Value} : ∀ {ts : List Nd} {i : Nat}, CellsAt w g o (flat ts pv i) → ∀ j n, ts[j]? = some n → CellsAt w g (o + j * 7) (n.cells (pv (i + j) true) (pv (i + j) false)) := by
  intro ts
  induction ts generalizing o with
  | nil => intro i _ j n h; simp at h
  | cons m r ih =>
    intro i h j n hj
    rw [flat] at h
    cases j with
    | zero => simp at hj; subst hj; simpa using h.left
    | succ j =>
      have := ih h.right j n (by simpa using hj)
      rw [show i + 1 + j = i + (j + 1) by omega] at this
      have e : (m.cells (pv i true) (pv i false)).length = 7 := rfl
      rw [e, show o + 7 + j * 7 = o + (j + 1) * 7 by omega] at this
      exact this
theorem flat_of {w : World} {g o : Nat} {pv : Nat → Bool → Value} : ∀ {ts : List Nd} {i : Nat}, (∀ j n, ts[j]? = some n → CellsAt w g (o + j * 7) (n.cells (pv (i + j) true) (pv (i + j) false))) → CellsAt w g o (flat ts pv i) := by
  intro ts
  induction ts generalizing o with
  | nil => intro i _; exact CellsAt.nil
  | cons m r ih =>
    intro i h
    rw [flat]
    refine CellsAt.append (by simpa using h 0 m rfl) (ih fun j n hj => ?_)
    have := h (j + 1) n (by simpa using hj)
    have e : (m.cells (pv i true) (pv i false)).length = 7 := rfl
    rw [e, show i + 1 + j = i + (j + 1) by omega, show o + 7 + j * 7 = o + (j + 1) * 7 by omega]
    exact this
theorem Nd.cells_one (n : Nd) {nv kv : Value} (h1 : nv.oneCell' = true) (h2 : kv.oneCell' = true) : ∀ c, c ∈ n.cells nv kv → c.oneCell' = true := by
  intro c hc
  simp only [Nd.cells, List.mem_cons, List.mem_nil_iff, or_false] at hc
  rcases hc with rfl | rfl | rfl | rfl | rfl | rfl | rfl <;> first | rfl | assumption
/-- The nodes' own buffer. -/
theorem TB.bufS {lo hi : Nat} {w : World} {ad : Option Addr} {cap g : Nat} {ts : List Nd} {bl : Nat → Bool → Nat} {pv : Nat → Bool → Value} (h : TB lo hi w ad cap g ts bl pv) : BufS lo hi w (.slice ad ts.length cap) ts.length 7 (flat ts pv 0) g :=
  ⟨ad, cap, rfl, h.le, h.max, flat_length _ _ _, h.plain, fun h0 => let ⟨a, b, c, d, e⟩ := h.at_ h0; ⟨a, b, c, d, flat_of fun j n hj => by rw [Nat.zero_add, Nat.zero_add]; exact e j n hj⟩⟩
/-- A tree with one node more: its buffers' blocks are new, or as they were. -/
theorem TB.snoc {S : Nat → Prop} {lo hi hi' : Nat} {w w' : World} {ad ad' : Option Addr} {cap cap' g g' : Nat} {ts : List Nd} {bl : Nat → Bool → Nat} {pv : Nat → Bool → Value} (h : TB lo hi w ad cap g ts bl pv) {n : Nd} {p1 : Bool → Value} {b1 : Bool → Nat}
    (hX : ExcP S w w') (hh : hi ≤ w.heap.size) (hhi : hi ≤ hi') (hS : ∀ i b, i < ts.length → 0 < capV (pv i b) → ¬ S (bl i b))
    (hB : BufS lo hi' w' (.slice ad' (ts.length + 1) cap') (ts.length + 1) 7 (flat ts pv 0 ++ n.cells (p1 true) (p1 false)) g')
    (hP : ∀ b, BufS lo hi' w' (p1 b) (contN n b) 1 (cont n b) (b1 b)) (hne : 0 < capV (p1 true) → 0 < capV (p1 false) → b1 true ≠ b1 false)
    (hnew : ∀ b, 0 < capV (p1 b) → b1 b ≠ g' ∧ ∀ i b', i < ts.length → 0 < capV (pv i b') → bl i b' ≠ b1 b) (hg : ∀ i b, i < ts.length → 0 < capV (pv i b) → bl i b ≠ g') :
    TB lo hi' w' ad' cap' g' (ts ++ [n]) (fun i b => if i = ts.length then b1 b else bl i b) (fun i b => if i = ts.length then p1 b else pv i b) := by
  obtain ⟨_, _, e1, hle, hcm, hxl, hpl, hat⟩ := hB
  cases e1
  have hlen : (ts ++ [n]).length = ts.length + 1 := by simp
  have old : ∀ {i : Nat} {m : Nd}, i < ts.length → (ts ++ [n])[i]? = some m → ts[i]? = some m := fun hi hm => by rwa [List.getElem?_append_left hi] at hm
  have last : ∀ {m : Nd}, (ts ++ [n])[ts.length]? = some m → m = n := fun hm => by
    rw [List.getElem?_append_right (Nat.le_refl _)] at hm; simpa using hm.symm
  have bound : ∀ {i : Nat} {m : Nd}, (ts ++ [n])[i]? = some m → i < ts.length ∨ i = ts.length := fun hm => by
    have := (List.getElem?_eq_some_iff.1 hm).1; rw [hlen] at this; omega
  have hfl : flat (ts ++ [n]) (fun i b => if i = ts.length then p1 b else pv i b) 0 = flat ts pv 0 ++ n.cells (p1 true) (p1 false) := by
    rw [flat_snoc]
    simp only [Nat.zero_add, if_true]
    congr 1
    exact flat_congr fun j b _ hj => by rw [if_neg (by omega)]
  refine ⟨by rw [hlen]; exact hle, hcm, hpl, fun h0 => ?_, fun i m b hm => ?_, fun i b j b' hi hj hd hc hc' => ?_, fun i b hi hc => ?_⟩
  · obtain ⟨a, b, c, d, e⟩ := hat h0
    refine ⟨a, b, c, d, fun i m hm => ?_⟩
    rw [← hfl] at e
    have := flat_cells e i m hm
    simpa using this
  · rcases bound hm with hi | rfl
    · rw [if_neg (by omega), if_neg (by omega)]
      have ho := old hi hm
      exact (h.pc i m b ho).exc hX (hS i b hi) hh hhi
    · rw [if_pos rfl, if_pos rfl, last hm]
      exact hP b
  · rw [hlen] at hi hj
    by_cases h1 : i = ts.length <;> by_cases h2 : j = ts.length
    · subst h1 h2
      rw [if_pos rfl] at hc hc' ⊢
      rw [if_pos rfl]
      have hbb : b ≠ b' := hd.resolve_left (by simp)
      cases b <;> cases b'
      · exact absurd rfl hbb
      · exact (hne hc' hc).symm
      · exact hne hc hc'
      · exact absurd rfl hbb
    · rw [if_pos h1] at hc ⊢
      rw [if_neg h2] at hc' ⊢
      exact ((hnew b hc).2 j b' (by omega) hc').symm
    · rw [if_neg h1] at hc ⊢
      rw [if_pos h2] at hc' ⊢
      exact (hnew b' hc').2 i b (by omega) hc
    · rw [if_neg h1] at hc ⊢
      rw [if_neg h2] at hc' ⊢
      exact h.ne i b j b' (by omega) (by omega) hd hc hc'
  · rw [hlen] at hi
    by_cases h1 : i = ts.length
    · rw [if_pos h1] at hc ⊢
      exact (hnew b hc).1
    · rw [if_neg h1] at hc ⊢
      exact hg i b (by omega) hc
theorem TB.empty {lo hi : Nat} {w : World} {b o g : Nat} {bl : Nat → Bool → Nat} {pv : Nat → Bool → Value} : TB lo hi w (some ⟨b, o, none⟩) 0 g [] bl pv :=
  ⟨Nat.le_refl _, by omega, fun p e => by cases e; exact ⟨_, _, rfl⟩, fun h => absurd h (by omega), fun i n b h => by simp at h, fun i b j b' h => absurd h (by simp), fun i b h => absurd h (by simp)⟩
theorem TB.blk {lo hi : Nat} {w : World} {ad : Option Addr} {cap g : Nat} {ts : List Nd} {bl : Nat → Bool → Nat} {pv : Nat → Bool → Value} (h : TB lo hi w ad cap g ts bl pv) {i : Nat} {b : Bool} (hi' : i < ts.length) (hc : 0 < capV (pv i b)) : lo ≤ bl i b ∧ bl i b < hi := by
  obtain ⟨_, c, e, _, _, _, _, hat⟩ := h.pc i ts[i] b (List.getElem?_eq_getElem hi')
  rw [e] at hc
  obtain ⟨_, h1, h2, _⟩ := hat hc
  exact ⟨h1, h2⟩
/-- append of one node, read off: what a copying loop needs behind it. -/
theorem TB.push {lo : Nat} {w w' : World} {ad : Option Addr} {cap g g' : Nat} {ts : List Nd} {bl : Nat → Bool → Nat} {pv : Nat → Bool → Value} (h : TB lo w.heap.size w ad cap g ts bl pv) {n : Nd} {p1 : Bool → Value} {b1 : Bool → Nat} {v' : Value}
    (hP : ∀ b, BufS lo w.heap.size w (p1 b) (contN n b) 1 (cont n b) (b1 b)) (hne : 0 < capV (p1 true) → 0 < capV (p1 false) → b1 true ≠ b1 false)
    (hnew : ∀ b, 0 < capV (p1 b) → (0 < cap → b1 b ≠ g) ∧ ∀ i b', i < ts.length → 0 < capV (pv i b') → bl i b' ≠ b1 b)
    (hB : BufS lo w'.heap.size w' v' (ts.length + 1) 7 (flat ts pv 0 ++ n.cells (p1 true) (p1 false)) g')
    (hw : (g' = g ∧ 0 < cap ∧ w' = setL w g (ts.length * 7) (n.cells (p1 true) (p1 false))) ∨ (w.heap.size ≤ g' ∧ Vc.Ext w w')) :
    TreeB lo w'.heap.size w' v' (ts ++ [n]) := by
  obtain ⟨ad', cap', rfl, _⟩ := id hB
  have hX : ExcP (fun j => 0 < cap ∧ j = g) w w' := by
    rcases hw with ⟨_, h0, rfl⟩ | ⟨_, hx⟩
    · exact (ExcP.refl _ _).setL ⟨h0, rfl⟩ _ _
    · exact ExcP.of_ext hx
  have hsz := hX.size
  have key := h.snoc (n := n) (p1 := p1) (b1 := b1) hX (Nat.le_refl _) hsz (fun i b hi hc ⟨h0, e⟩ => h.neG i b hi hc e) hB (fun b => (hP b).exc hX (fun hc ⟨h0, e⟩ => (hnew b hc).1 h0 e) (Nat.le_refl _) hsz) hne
    (fun b hc => ⟨by
      rcases hw with ⟨e, h0, _⟩ | ⟨hg, _⟩
      · rw [e]; exact (hnew b hc).1 h0
      · have := ((hP b).blk hc).2; omega, (hnew b hc).2⟩) (fun i b hi hc => by
      rcases hw with ⟨e, h0, _⟩ | ⟨hg, _⟩
      · rw [e]; exact h.neG i b hi hc
      · have := (h.blk hi hc).2; omega)
  exact ⟨ad', cap', g', _, _, by simp, key⟩
theorem iCopy_vc (ts : List Nd) (v : Value) (w : World) (hT : Tree w v ts) (hs : Sized ts) :
    Calls Tryz.prog 38 #[v] w fun e w' => ∃ v', e = .returned v' ∧ TreeB w.heap.size w'.heap.size w' v' ts ∧ Vc.Ext w w' := by
  have hl := hs.1
  obtain ⟨ad, cap, rfl, hat⟩ := hT.node
  refine calls_of cx_ok Tryz.func38 Tryz.ntmps38 Tryz.results38 rfl rfl ?_
  repeat (first | refine jC ?_ | refine jN ?_ | refine jS ?_ | refine jR ?_ | refine jT ?_ | refine jB ?_ | refine jX rfl ?_ | refine jY rfl ?_ | refine jK ?_ | refine jD ?_ | refine jE ?_)
  refine Made.mk fun g0 w0 hx0 hg1 hg2 hg3 _ => ?_
  repeat (first | refine jC ?_ | refine jN ?_ | refine jS ?_ | refine jR ?_ | refine jT ?_ | refine jB ?_ | refine jX rfl ?_ | refine jY rfl ?_ | refine jK ?_ | refine jD ?_ | refine jE ?_)
  refine WpC.loop (α := Nat × Value × World) (fun x => ⟨[(3, .v x.2.1), (7, .v (.slice ad ts.length cap)), (8, .v (.int .i64 (ts.length : Int))), (9, .v (.int .i64 (x.1 : Int)))], [], x.2.2⟩)
    (fun x => x.1 ≤ ts.length ∧ Vc.Ext w x.2.2 ∧ TreeB w.heap.size x.2.2.heap.size x.2.2 x.2.1 (ts.take x.1)) (fun x => ts.length - x.1) (0, .slice (some ⟨g0, 0, none⟩) 0 0, w0)
    ⟨Nat.zero_le _, hx0, some ⟨g0, 0, none⟩, 0, 0, fun _ _ => 0, fun _ _ => .slice none 0 0, rfl, TB.empty⟩ ⟨⟨rfl, rfl, rfl, rfl, trivial⟩, trivial, trivial, Vc.Ext.refl _⟩ ?_
  rintro ⟨k, vk, wk⟩ ⟨hk, hx, hB⟩
  dsimp only at hk hx hB ⊢
  repeat (first | refine jC ?_ | refine jN ?_ | refine jS ?_ | refine jR ?_ | refine jT ?_ | refine jB ?_ | refine jX rfl ?_ | refine jY rfl ?_ | refine jK ?_ | refine jD ?_ | refine jE ?_)
  refine Br.intro (fun h => ?_) (fun h => ?_)
  · have hlt : k < ts.length := by have := of_decide_eq_true h; omega
    have hu : ts[k]? = some ts[k] := List.getElem?_eq_getElem hlt
    have hsn := hs.2 _ (List.getElem_mem hlt)
    have htk := List.take_succ_eq_append_getElem hlt
    have hlk : (ts.take k).length = k := by rw [List.length_take]; omega
    generalize ts[k] = n at hu hsn htk
    obtain ⟨nb, no, nv, kv, rfl, hcn, hN⟩ := hat k n hu
    obtain ⟨kad, kcap, rfl, _⟩ := kids_open hN
    obtain ⟨nad, ncap, rfl, _⟩ := names_open hN
    repeat (first | refine jC ?_ | refine jN ?_ | refine jS ?_ | refine jR ?_ | refine jT ?_ | refine jB ?_ | refine jX rfl ?_ | refine jY rfl ?_ | refine jK ?_ | refine jD ?_ | refine jE ?_)
    refine Ix.mk k rfl hlt ?_
    repeat (first | refine jC ?_ | refine jN ?_ | refine jS ?_ | refine jR ?_ | refine jT ?_ | refine jB ?_ | refine jX rfl ?_ | refine jY rfl ?_ | refine jK ?_ | refine jD ?_ | refine jE ?_)
    refine LdN.mk (hcn.ext hx) rfl ?_
    repeat (first | refine jC ?_ | refine jN ?_ | refine jS ?_ | refine jR ?_ | refine jT ?_ | refine jB ?_ | refine jX rfl ?_ | refine jY rfl ?_ | refine jK ?_ | refine jD ?_ | refine jE ?_)
    intro b5 hb5
    repeat (first | refine jC ?_ | refine jN ?_ | refine jS ?_ | refine jR ?_ | refine jT ?_ | refine jB ?_ | refine jX rfl ?_ | refine jY rfl ?_ | refine jK ?_ | refine jD ?_ | refine jE ?_)
    refine ⟨by assumption, rfl, by simp, by simp [Value.oneCell'], ?_⟩
    obtain ⟨adk, capk, gk, blk, pvk, rfl, hTB⟩ := hB
    rw [hlk]
    repeat (first | refine jC ?_ | refine jN ?_ | refine jS ?_ | refine jR ?_ | refine jT ?_ | refine jB ?_ | refine jX rfl ?_ | refine jY rfl ?_ | refine jK ?_ | refine jD ?_ | refine jE ?_)
    refine WpC.plain (fun w1 hxw hO1 => ?_)
    have hblk := hO1.blk0
    have hc5 : CellsAt w1 b5 0 (n.cells (.slice nad n.names.length ncap) (.slice kad n.kids.length kcap)) := CellsAt.of_block hblk fun i v hi => by simpa using hi
    have hm5 : MutN w1 b5 0 7 := MutN.of_block hblk (by simp)
    have hb5' : b5 < w1.heap.size := hc5.lt (by simp)
    have hx1w := hx.trans hxw
    refine WpC.drawE (.st 0 (.st 1 (.st 3 (.st 4 (.ef 2 (.st 6 (.ef 5 (.ef 7 (.st 8 (.ef 9 .done .done)) .done) .done)) .done))))) [(2, .ef), (5, .ef), (7, .br), (9, .br)] (by kernel_rfl) ?_
    repeat (first | refine uM ?_ | refine uR ?_ | refine uE ?_ | refine uB ?_ | refine uA ?_ | refine uD ?_ | refine jC ?_ | refine jN ?_ | refine jS ?_ | refine jR ?_ | refine jT ?_ | refine jB ?_ | refine jX rfl ?_ | refine jY rfl ?_ | refine jK ?_ | refine jD ?_ | refine jE ?_)
    refine Ld.mk (hc5.out 5 _ rfl) ?_
    repeat (first | refine uM ?_ | refine uR ?_ | refine uE ?_ | refine uB ?_ | refine uA ?_ | refine uD ?_ | refine jC ?_ | refine jN ?_ | refine jS ?_ | refine jR ?_ | refine jT ?_ | refine jB ?_ | refine jX rfl ?_ | refine jY rfl ?_ | refine jK ?_ | refine jD ?_ | refine jE ?_)
    refine Ld.mk (hc5.out 6 _ rfl) ?_
    repeat (first | refine uM ?_ | refine uR ?_ | refine uE ?_ | refine uB ?_ | refine uA ?_ | refine uD ?_ | refine jC ?_ | refine jN ?_ | refine jS ?_ | refine jR ?_ | refine jT ?_ | refine jB ?_ | refine jX rfl ?_ | refine jY rfl ?_ | refine jK ?_ | refine jD ?_ | refine jE ?_)
    refine CallV.mem _ (fun w' hw _ => cloneS_call n.names _ w' ((hN.1.ext hx1w).ext hw) hsn.1) (fun x1 wa wb hx1 hx2 _ ⟨gn, hBn⟩ => ?_)
    obtain ⟨adn, capn, rfl, _⟩ := id hBn
    refine ⟨Keep.ext (hx1.trans hx2), ?_⟩
    repeat (first | refine uM ?_ | refine uR ?_ | refine uE ?_ | refine uB ?_ | refine uA ?_ | refine uD ?_ | refine jC ?_ | refine jN ?_ | refine jS ?_ | refine jR ?_ | refine jT ?_ | refine jB ?_ | refine jX rfl ?_ | refine jY rfl ?_ | refine jK ?_ | refine jD ?_ | refine jE ?_)
    refine CallV.mem _ (fun w' hw _ => cloneI_call n.kids _ w' ((hN.2.ext ((hx1w.trans hx1).trans hx2)).ext hw) hsn.2) (fun x2 wc wd hx3 hx4 _ ⟨gi, hBi⟩ => ?_)
    obtain ⟨adi, capi, rfl, _⟩ := id hBi
    have hxd := ((hx1.trans hx2).trans hx3).trans hx4
    refine ⟨Keep.ext hxd, ?_⟩
    repeat (first | refine uM ?_ | refine uR ?_ | refine uE ?_ | refine uB ?_ | refine uA ?_ | refine uD ?_ | refine jC ?_ | refine jN ?_ | refine jS ?_ | refine jR ?_ | refine jT ?_ | refine jB ?_ | refine jX rfl ?_ | refine jY rfl ?_ | refine jK ?_ | refine jD ?_ | refine jE ?_)
    have hmd := hm5.ext hxd
    refine ⟨by simpa using hmd.sub (k := 5) (m := 1) (by omega), trivial, rfl, by simp [Value.oneCell'], ?_⟩
    repeat (first | refine uM ?_ | refine uR ?_ | refine uE ?_ | refine uB ?_ | refine uA ?_ | refine uD ?_ | refine jC ?_ | refine jN ?_ | refine jS ?_ | refine jR ?_ | refine jT ?_ | refine jB ?_ | refine jX rfl ?_ | refine jY rfl ?_ | refine jK ?_ | refine jD ?_ | refine jE ?_)
    have hmd2 := MutN.setL (b := b5) [Value.slice adn n.names.length capn] wd (0 + 5) hmd
    refine ⟨by simpa using hmd2.sub (k := 6) (m := 1) (by omega), trivial, rfl, by simp [Value.oneCell'], ?_⟩
    have hcd : CellsAt (setL (setL wd b5 (0 + 5) [Value.slice adn n.names.length capn]) b5 (0 + 6) [Value.slice adi n.kids.length capi]) b5 0 (n.cells (.slice adn n.names.length capn) (.slice adi n.kids.length capi)) :=
      ((hc5.ext hxd).setAt (hmd.sub (k := 5) (m := 1) (by omega)) (by simp)).setAt (hmd2.sub (k := 6) (m := 1) (by omega)) (by simp)
    have hX5 : ExcP (fun j => j = b5) wd (setL (setL wd b5 (0 + 5) [Value.slice adn n.names.length capn]) b5 (0 + 6) [Value.slice adi n.kids.length capi]) :=
      ((ExcP.refl (fun j => j = b5) wd).setL (S := fun j => j = b5) (g := b5) rfl _ _).setL (S := fun j => j = b5) (g := b5) rfl _ _
    have hz5 := hX5.size
    generalize setL (setL wd b5 (0 + 5) [Value.slice adn n.names.length capn]) b5 (0 + 6) [Value.slice adi n.kids.length capi] = w5 at hcd hX5 hz5 ⊢
    have hs1 := hx1.size
    have hs2 := hx2.size
    have hs3 := hx3.size
    have hs4 := hx4.size
    have hsw := hxw.size
    have hsx := hx.size
    have hx5 : Vc.Ext wk w5 := (hxw.trans hxd).trans' (hX5.below (by omega) fun j hj e => by omega)
    repeat (first | refine uM ?_ | refine uR ?_ | refine uE ?_ | refine uB ?_ | refine uA ?_ | refine uD ?_ | refine jC ?_ | refine jN ?_ | refine jS ?_ | refine jR ?_ | refine jT ?_ | refine jB ?_ | refine jX rfl ?_ | refine jY rfl ?_ | refine jK ?_ | refine jD ?_ | refine jE ?_)
    refine LdN.mk hcd rfl ?_
    repeat (first | refine jC ?_ | refine jN ?_ | refine jS ?_ | refine jR ?_ | refine jT ?_ | refine jB ?_ | refine jX rfl ?_ | refine jY rfl ?_ | refine jK ?_ | refine jD ?_ | refine jE ?_)
    refine Made.mk fun g2 w2 hx6 hg21 hg22 hg23 hne2 => ?_
    have hs6 := hx6.size
    have hTB2 : TB w.heap.size w2.heap.size w2 adk capk gk (ts.take k) blk pvk := hTB.ext (hx5.trans hx6) (by omega)
    have hB2 := hTB2.bufS
    rw [hlk] at hB2
    have hbl := fun i b hi hc => hTB.blk (i := i) (b := b) hi hc
    have hPn : BufS w.heap.size w2.heap.size w2 (.slice adn n.names.length capn) n.names.length 1 (strs n.names) gn := (((hBn.ext (hx3.trans hx4) (by omega)).exc (hi' := w5.heap.size) hX5 (fun hc e => by have := (hBn.blk hc).1; omega) (Nat.le_refl wd.heap.size) (by omega)).ext hx6 (by omega)).low (by omega)
    have hPi : BufS w.heap.size w2.heap.size w2 (.slice adi n.kids.length capi) n.kids.length 1 (ints n.kids) gi := ((hBi.exc (hi' := w5.heap.size) hX5 (fun hc e => by have := (hBi.blk hc).1; omega) (Nat.le_refl wd.heap.size) (by omega)).ext hx6 (by omega)).low (by omega)
    repeat (first | refine jC ?_ | refine jN ?_ | refine jS ?_ | refine jR ?_ | refine jT ?_ | refine jB ?_ | refine jX rfl ?_ | refine jY rfl ?_ | refine jK ?_ | refine jD ?_ | refine jE ?_)
    refine AppV.bufS hB2 (by omega) (news := n.cells (.slice adn n.names.length capn) (.slice adi n.kids.length capi)) (CellsAt.of_block hg23 (fun i v hi => by simpa using hi)) rfl (n.cells_one rfl rfl) (fun hc => trivial) (by omega) (by omega) rfl (by omega) (Nat.le_refl _) (fun v' A' g' hBv hcv hw => ?_)
    repeat (first | refine jC ?_ | refine jN ?_ | refine jS ?_ | refine jR ?_ | refine jT ?_ | refine jB ?_ | refine jX rfl ?_ | refine jY rfl ?_ | refine jK ?_ | refine jD ?_ | refine jE ?_)
    refine ⟨I64.mk (by omega), ?_⟩
    repeat (first | refine jC ?_ | refine jN ?_ | refine jS ?_ | refine jR ?_ | refine jT ?_ | refine jB ?_ | refine jX rfl ?_ | refine jY rfl ?_ | refine jK ?_ | refine jD ?_ | refine jE ?_)
    have hpush := hTB2.push (n := n) (p1 := fun b => cond b (.slice adn n.names.length capn) (.slice adi n.kids.length capi)) (b1 := fun b => cond b gn gi) (v' := v') (w' := A') (g' := g') (fun b => by cases b; exact hPi; exact hPn)
      (fun hc hc' => by have := hBn.blk hc; have := hBi.blk hc'; show gn ≠ gi; omega)
      (fun b hc => by
        have hge : wk.heap.size ≤ cond b gn gi := by
          cases b
          · have := (hBi.blk hc).1; show wk.heap.size ≤ gi; omega
          · have := (hBn.blk hc).1; show wk.heap.size ≤ gn; omega
        refine ⟨fun h0 e => ?_, fun i b' hi hc' e => ?_⟩
        · have := (hTB.at_ h0).2.2.1; omega
        · have := (hbl i b' hi hc').2; omega)
      (by rw [hlk]; exact hBv) (by rw [hlk]; exact hw)
    refine ⟨(k + 1, v', A'), ⟨hlt, ?_, by rw [htk]; exact hpush⟩, by show ts.length - (k + 1) < ts.length - k; omega, ⟨rfl, rfl, rfl, rfl, trivial⟩, trivial, trivial, Vc.Ext.refl _⟩
    refine ((hx.trans hx5).trans hx6).trans' ?_
    rcases hw with ⟨_, h0, rfl⟩ | ⟨_, hx7⟩
    · exact below_setL (Below.refl _ _) (hTB2.at_ h0).2.1 _ _
    · exact hx7.mono (by omega)
  · have hke : k = ts.length := by have := of_decide_eq_false h; omega
    subst hke
    rw [List.take_length] at hB
    repeat (first | refine jC ?_ | refine jN ?_ | refine jS ?_ | refine jR ?_ | refine jT ?_ | refine jB ?_ | refine jX rfl ?_ | refine jY rfl ?_ | refine jK ?_ | refine jD ?_ | refine jE ?_)
    exact EndV.mk fun w' hw' => ⟨_, rfl, hB.ext hw' hw'.size, hx.trans hw'⟩
theorem sCopy_vc (ts : List Nd) (v : Value) (w : World) (hT : Tree w v ts) (hs : Sized ts) :
    Calls Tryz.prog 31 #[v] w fun e w' => ∃ v', e = .returned v' ∧ TreeB w.heap.size w'.heap.size w' v' ts ∧ Vc.Ext w w' := by
  have hl := hs.1
  obtain ⟨ad, cap, rfl, hat⟩ := hT.node
  refine calls_of cx_ok Tryz.func31 Tryz.ntmps31 Tryz.results31 rfl rfl ?_
  repeat (first | refine jC ?_ | refine jN ?_ | refine jS ?_ | refine jR ?_ | refine jT ?_ | refine jB ?_ | refine jX rfl ?_ | refine jY rfl ?_ | refine jK ?_ | refine jD ?_ | refine jE ?_)
  refine Made.mk fun g0 w0 hx0 hg1 hg2 hg3 _ => ?_
  repeat (first | refine jC ?_ | refine jN ?_ | refine jS ?_ | refine jR ?_ | refine jT ?_ | refine jB ?_ | refine jX rfl ?_ | refine jY rfl ?_ | refine jK ?_ | refine jD ?_ | refine jE ?_)
  refine WpC.loop (α := Nat × Value × World) (fun x => ⟨[(0, .v (.slice ad ts.length cap)), (3, .v x.2.1), (4, .v (.int .i64 (x.1 : Int)))], [], x.2.2⟩)
    (fun x => x.1 ≤ ts.length ∧ Vc.Ext w x.2.2 ∧ TreeB w.heap.size x.2.2.heap.size x.2.2 x.2.1 (ts.take x.1)) (fun x => ts.length - x.1) (0, .slice (some ⟨g0, 0, none⟩) 0 0, w0)
    ⟨Nat.zero_le _, hx0, some ⟨g0, 0, none⟩, 0, 0, fun _ _ => 0, fun _ _ => .slice none 0 0, rfl, TB.empty⟩ ⟨⟨rfl, rfl, rfl, trivial⟩, trivial, trivial, Vc.Ext.refl _⟩ ?_
  rintro ⟨k, vk, wk⟩ ⟨hk, hx, hB⟩
  dsimp only at hk hx hB ⊢
  repeat (first | refine jC ?_ | refine jN ?_ | refine jS ?_ | refine jR ?_ | refine jT ?_ | refine jB ?_ | refine jX rfl ?_ | refine jY rfl ?_ | refine jK ?_ | refine jD ?_ | refine jE ?_)
  refine Br.intro (fun h => ?_) (fun h => ?_)
  · have hlt : k < ts.length := by have := of_decide_eq_true h; omega
    have hu : ts[k]? = some ts[k] := List.getElem?_eq_getElem hlt
    have hsn := hs.2 _ (List.getElem_mem hlt)
    have htk := List.take_succ_eq_append_getElem hlt
    have hlk : (ts.take k).length = k := by rw [List.length_take]; omega
    generalize ts[k] = n at hu hsn htk
    obtain ⟨nb, no, nv, kv, rfl, hcn, hN⟩ := hat k n hu
    obtain ⟨kad, kcap, rfl, _⟩ := kids_open hN
    obtain ⟨nad, ncap, rfl, _⟩ := names_open hN
    repeat (first | refine jC ?_ | refine jN ?_ | refine jS ?_ | refine jR ?_ | refine jT ?_ | refine jB ?_ | refine jX rfl ?_ | refine jY rfl ?_ | refine jK ?_ | refine jD ?_ | refine jE ?_)
    refine Ix.mk k rfl hlt ?_
    repeat (first | refine jC ?_ | refine jN ?_ | refine jS ?_ | refine jR ?_ | refine jT ?_ | refine jB ?_ | refine jX rfl ?_ | refine jY rfl ?_ | refine jK ?_ | refine jD ?_ | refine jE ?_)
    refine LdN.mk (hcn.ext hx) rfl ?_
    repeat (first | refine jC ?_ | refine jN ?_ | refine jS ?_ | refine jR ?_ | refine jT ?_ | refine jB ?_ | refine jX rfl ?_ | refine jY rfl ?_ | refine jK ?_ | refine jD ?_ | refine jE ?_)
    intro b5 hb5
    repeat (first | refine jC ?_ | refine jN ?_ | refine jS ?_ | refine jR ?_ | refine jT ?_ | refine jB ?_ | refine jX rfl ?_ | refine jY rfl ?_ | refine jK ?_ | refine jD ?_ | refine jE ?_)
    refine ⟨by assumption, rfl, by simp, by simp [Value.oneCell'], ?_⟩
    obtain ⟨adk, capk, gk, blk, pvk, rfl, hTB⟩ := hB
    rw [hlk]
    repeat (first | refine jC ?_ | refine jN ?_)
    refine WpC.plain (fun w1 hxw hO1 => ?_)
    have hblk := hO1.blk0
    have hc5 : CellsAt w1 b5 0 (n.cells (.slice nad n.names.length ncap) (.slice kad n.kids.length kcap)) := CellsAt.of_block hblk fun i v hi => by simpa using hi
    have hm5 : MutN w1 b5 0 7 := MutN.of_block hblk (by simp)
    have hb5' : b5 < w1.heap.size := hc5.lt (by simp)
    have hx1w := hx.trans hxw
    repeat (first | refine jC ?_ | refine jN ?_ | refine jS ?_ | refine jR ?_ | refine jT ?_ | refine jB ?_ | refine jX rfl ?_ | refine jY rfl ?_ | refine jK ?_ | refine jD ?_ | refine jE ?_)
    refine Made.mk fun g3 w3 hx3 hg31 hg32 hg33 _ => ?_
    repeat (first | refine jC ?_ | refine jN ?_ | refine jS ?_ | refine jR ?_ | refine jT ?_ | refine jB ?_ | refine jX rfl ?_ | refine jY rfl ?_ | refine jK ?_ | refine jD ?_ | refine jE ?_)
    refine Ld.mk ((hc5.ext hx3).out 5 _ rfl) ?_
    repeat (first | refine jC ?_ | refine jN ?_ | refine jS ?_ | refine jR ?_ | refine jT ?_ | refine jB ?_ | refine jX rfl ?_ | refine jY rfl ?_ | refine jK ?_ | refine jD ?_ | refine jE ?_)
    refine AppV.copyS (lo := w3.heap.size) ((hN.1.ext hx1w).ext hx3) (by simp [Value.oneCell']) (by omega) rfl (Nat.le_refl _) (fun v1 wa gn hBn hxa hgn => ?_)
    repeat (first | refine jC ?_ | refine jN ?_ | refine jS ?_ | refine jR ?_ | refine jT ?_ | refine jB ?_ | refine jX rfl ?_ | refine jY rfl ?_ | refine jK ?_ | refine jD ?_ | refine jE ?_)
    obtain ⟨adn, capn, rfl, _⟩ := id hBn
    have hma := (hm5.ext hx3).ext hxa
    refine ⟨by simpa using hma.sub (k := 5) (m := 1) (by omega), trivial, rfl, by simp [Value.oneCell'], ?_⟩
    have hca := ((hc5.ext hx3).ext hxa).setAt (x := .slice adn n.names.length capn) (hma.sub (k := 5) (m := 1) (by omega)) (by simp)
    have hXa : ExcP (fun j => j = b5) wa (setL wa b5 (0 + 5) [Value.slice adn n.names.length capn]) := (ExcP.refl (fun j => j = b5) wa).setL (S := fun j => j = b5) (g := b5) rfl _ _
    have hmb : MutN (setL wa b5 (0 + 5) [Value.slice adn n.names.length capn]) b5 0 7 := MutN.setL _ _ _ hma
    generalize setL wa b5 (0 + 5) [Value.slice adn n.names.length capn] = wb at hca hXa hmb ⊢
    have hs1 := hxw.size
    have hs3 := hx3.size
    have hsa := hxa.size
    have hsb := hXa.size
    have hsx := hx.size
    have hxkb : Vc.Ext wk wb := ((hxw.trans hx3).trans hxa).trans' (hXa.below (by omega) fun j hj e => by omega)
    repeat (first | refine jC ?_ | refine jN ?_ | refine jS ?_ | refine jR ?_ | refine jT ?_ | refine jB ?_ | refine jX rfl ?_ | refine jY rfl ?_ | refine jK ?_ | refine jD ?_ | refine jE ?_)
    refine Made.mk fun g4 w4 hx4 hg41 hg42 hg43 _ => ?_
    repeat (first | refine jC ?_ | refine jN ?_ | refine jS ?_ | refine jR ?_ | refine jT ?_ | refine jB ?_ | refine jX rfl ?_ | refine jY rfl ?_ | refine jK ?_ | refine jD ?_ | refine jE ?_)
    refine Ld.mk ((hca.ext hx4).out 6 _ rfl) ?_
    repeat (first | refine jC ?_ | refine jN ?_ | refine jS ?_ | refine jR ?_ | refine jT ?_ | refine jB ?_ | refine jX rfl ?_ | refine jY rfl ?_ | refine jK ?_ | refine jD ?_ | refine jE ?_)
    refine AppV.copyS (lo := w4.heap.size) ((hN.2.ext hx).ext (hxkb.trans hx4)) (by simp [Value.oneCell']) (by omega) rfl (Nat.le_refl _) (fun v2 wc gi hBi hxc hgi => ?_)
    repeat (first | refine jC ?_ | refine jN ?_ | refine jS ?_ | refine jR ?_ | refine jT ?_ | refine jB ?_ | refine jX rfl ?_ | refine jY rfl ?_ | refine jK ?_ | refine jD ?_ | refine jE ?_)
    obtain ⟨adi, capi, rfl, _⟩ := id hBi
    have hmc := (hmb.ext hx4).ext hxc
    refine ⟨by simpa using hmc.sub (k := 6) (m := 1) (by omega), trivial, rfl, by simp [Value.oneCell'], ?_⟩
    have hcd := ((hca.ext hx4).ext hxc).setAt (x := .slice adi n.kids.length capi) (hmc.sub (k := 6) (m := 1) (by omega)) (by simp)
    have hXc : ExcP (fun j => j = b5) wc (setL wc b5 (0 + 6) [Value.slice adi n.kids.length capi]) := (ExcP.refl (fun j => j = b5) wc).setL (S := fun j => j = b5) (g := b5) rfl _ _
    have hs4 := hx4.size
    have hsc := hxc.size
    have hz5 := hXc.size
    have hBn5 : BufS w3.heap.size (setL wc b5 (0 + 6) [Value.slice adi n.kids.length capi]).heap.size (setL wc b5 (0 + 6) [Value.slice adi n.kids.length capi]) (.slice adn n.names.length capn) n.names.length 1 (strs n.names) gn :=
      ((hBn.exc (hi' := wb.heap.size) hXa (fun hc e => by have := (hBn.blk hc).1; omega) (Nat.le_refl _) (by omega)).ext (hi' := wc.heap.size) (hx4.trans hxc) (by omega)).exc hXc (fun hc e => by have := (hBn.blk hc).1; omega) (Nat.le_refl _) (by omega)
    have hBi5 : BufS w4.heap.size (setL wc b5 (0 + 6) [Value.slice adi n.kids.length capi]).heap.size (setL wc b5 (0 + 6) [Value.slice adi n.kids.length capi]) (.slice adi n.kids.length capi) n.kids.length 1 (ints n.kids) gi :=
      hBi.exc hXc (fun hc e => by have := (hBi.blk hc).1; omega) (Nat.le_refl _) (by omega)
    have hx5 : Vc.Ext wk (setL wc b5 (0 + 6) [Value.slice adi n.kids.length capi]) := ((hxkb.trans hx4).trans hxc).trans' (hXc.below (by omega) fun j hj e => by omega)
    generalize setL wc b5 (0 + 6) [Value.slice adi n.kids.length capi] = w5 at hcd hXc hz5 hBn5 hBi5 hx5 ⊢
    repeat (first | refine jC ?_ | refine jN ?_ | refine jS ?_ | refine jR ?_ | refine jT ?_ | refine jB ?_ | refine jX rfl ?_ | refine jY rfl ?_ | refine jK ?_ | refine jD ?_ | refine jE ?_)
    refine LdN.mk hcd rfl ?_
    repeat (first | refine jC ?_ | refine jN ?_ | refine jS ?_ | refine jR ?_ | refine jT ?_ | refine jB ?_ | refine jX rfl ?_ | refine jY rfl ?_ | refine jK ?_ | refine jD ?_ | refine jE ?_)
    refine Made.mk fun g2 w2 hx6 hg21 hg22 hg23 hne2 => ?_
    have hs6 := hx6.size
    have hTB2 : TB w.heap.size w2.heap.size w2 adk capk gk (ts.take k) blk pvk := hTB.ext (hx5.trans hx6) (by omega)
    have hB2 := hTB2.bufS
    rw [hlk] at hB2
    have hbl := fun i b hi hc => hTB.blk (i := i) (b := b) hi hc
    have hPn : BufS w.heap.size w2.heap.size w2 (.slice adn n.names.length capn) n.names.length 1 (strs n.names) gn := (hBn5.ext hx6 (by omega)).low (by omega)
    have hPi : BufS w.heap.size w2.heap.size w2 (.slice adi n.kids.length capi) n.kids.length 1 (ints n.kids) gi := (hBi5.ext hx6 (by omega)).low (by omega)
    repeat (first | refine jC ?_ | refine jN ?_ | refine jS ?_ | refine jR ?_ | refine jT ?_ | refine jB ?_ | refine jX rfl ?_ | refine jY rfl ?_ | refine jK ?_ | refine jD ?_ | refine jE ?_)
    refine AppV.bufS hB2 (by omega) (news := n.cells (.slice adn n.names.length capn) (.slice adi n.kids.length capi)) (CellsAt.of_block hg23 (fun i v hi => by simpa using hi)) rfl (n.cells_one rfl rfl) (fun hc => trivial) (by omega) (by omega) rfl (by omega) (Nat.le_refl _) (fun v' A' g' hBv hcv hw => ?_)
    repeat (first | refine jC ?_ | refine jN ?_ | refine jS ?_ | refine jR ?_ | refine jT ?_ | refine jB ?_ | refine jX rfl ?_ | refine jY rfl ?_ | refine jK ?_ | refine jD ?_ | refine jE ?_)
    refine ⟨I64.mk (by omega), ?_⟩
    repeat (first | refine jC ?_ | refine jN ?_ | refine jS ?_ | refine jR ?_ | refine jT ?_ | refine jB ?_ | refine jX rfl ?_ | refine jY rfl ?_ | refine jK ?_ | refine jD ?_ | refine jE ?_)
    have hpush := hTB2.push (n := n) (p1 := fun b => cond b (.slice adn n.names.length capn) (.slice adi n.kids.length capi)) (b1 := fun b => cond b gn gi) (v' := v') (w' := A') (g' := g') (fun b => by cases b; exact hPi; exact hPn)
      (fun hc hc' => by have := (hBn.blk hc); have := hBi.blk hc'; show gn ≠ gi; omega)
      (fun b hc => by
        have hge : wk.heap.size ≤ cond b gn gi := by
          cases b
          · have := (hBi.blk hc).1; show wk.heap.size ≤ gi; omega
          · have := (hBn.blk hc).1; show wk.heap.size ≤ gn; omega
        refine ⟨fun h0 e => ?_, fun i b' hi hc' e => ?_⟩
        · have := (hTB.at_ h0).2.2.1; omega
        · have := (hbl i b' hi hc').2; omega)
      (by rw [hlk]; exact hBv) (by rw [hlk]; exact hw)
    refine ⟨(k + 1, v', A'), ⟨hlt, ?_, by rw [htk]; exact hpush⟩, by show ts.length - (k + 1) < ts.length - k; omega, ⟨rfl, rfl, rfl, trivial⟩, trivial, trivial, Vc.Ext.refl _⟩
    refine ((hx.trans hx5).trans hx6).trans' ?_
    rcases hw with ⟨_, h0, rfl⟩ | ⟨_, hx7⟩
    · exact below_setL (Below.refl _ _) (hTB2.at_ h0).2.1 _ _
    · exact hx7.mono (by omega)
  · have hke : k = ts.length := by have := of_decide_eq_false h; omega
    subst hke
    rw [List.take_length] at hB
    repeat (first | refine jC ?_ | refine jN ?_ | refine jS ?_ | refine jR ?_ | refine jT ?_ | refine jB ?_ | refine jX rfl ?_ | refine jY rfl ?_ | refine jK ?_ | refine jD ?_ | refine jE ?_)
    exact EndV.mk fun w' hw' => ⟨_, rfl, hB.ext hw' hw'.size, hx.trans hw'⟩
end Go.Proofs.YtbnjjpgacemicaaGreatDoor
