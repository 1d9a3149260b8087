/-
  Trees in memory of the call's own that grow and turn: every slice a buffer that begins a block of its own.
  Conditions: none.
-/
import Derived.Test.YtbnjjpgacemicaaGreatDoorMarkN
import Derived.Test.YtbnjjpgacemicaaGreatDoorTabE
namespace Go.Proofs.YtbnjjpgacemicaaGreatDoor
open Go.RowKit Vc
set_option linter.unusedVariables false

def capV : Value → Nat
  | .slice _ _ c => c
  | _ => 0
/-- A slice of n elements of sz cells that begins a block between lo and hi, all of its room the call's own. -/
def BufS (lo hi : Nat) (w : World) (v : Value) (n sz : Nat) (xs : List Value) (g : Nat) : Prop := ∃ (ad : Option Addr) (cap : Nat), v = .slice ad n cap ∧ n ≤ cap ∧ cap ≤ 9223372036854775807 ∧ xs.length = n * sz ∧ (∀ p, ad = some p → ∃ b o, p = ⟨b, o, none⟩) ∧
  (0 < cap → ad = some ⟨g, 0, none⟩ ∧ lo ≤ g ∧ g < hi ∧ MutN w g 0 (cap * sz) ∧ CellsAt w g 0 xs)
theorem BufS.exc {S : Nat → Prop} {lo hi hi' : Nat} {w w' : World} {v : Value} {n sz g : Nat} {xs : List Value} (h : BufS lo hi w v n sz xs g) (hX : ExcP S w w') (hS : 0 < capV v → ¬ S g) (hh : hi ≤ w.heap.size) (hle : hi ≤ hi') : BufS lo hi' w' v n sz xs g := by
  obtain ⟨ad, cap, rfl, h1, h2, h3, h4, h5⟩ := h
  refine ⟨ad, cap, rfl, h1, h2, h3, h4, fun h0 => ?_⟩
  obtain ⟨h6, h7, h8, h9, h10⟩ := h5 h0
  exact ⟨h6, h7, by omega, h9.exc (by omega) hX (hS h0), h10.exc (by omega) hX (hS h0)⟩
theorem BufS.ext {lo hi hi' : Nat} {w w' : World} {v : Value} {n sz g : Nat} {xs : List Value} (h : BufS lo hi w v n sz xs g) (hx : Ext w w') (hh : hi ≤ hi') : BufS lo hi' w' v n sz xs g := by
  obtain ⟨ad, cap, rfl, h1, h2, h3, h4, h5⟩ := h
  refine ⟨ad, cap, rfl, h1, h2, h3, h4, fun h0 => ?_⟩
  obtain ⟨h6, h7, h8, h9, h10⟩ := h5 h0
  exact ⟨h6, h7, by omega, h9.ext hx, h10.ext hx⟩
theorem BufS.low {lo lo' hi : Nat} {w : World} {v : Value} {n sz g : Nat} {xs : List Value} (h : BufS lo hi w v n sz xs g) (hl : lo' ≤ lo) : BufS lo' hi w v n sz xs g := by
  obtain ⟨ad, cap, rfl, h1, h2, h3, h4, h5⟩ := h
  refine ⟨ad, cap, rfl, h1, h2, h3, h4, fun h0 => ?_⟩
  obtain ⟨h6, h7, h8, h9, h10⟩ := h5 h0
  exact ⟨h6, by omega, h8, h9, h10⟩
theorem BufS.row1 {lo hi : Nat} {w : World} {v : Value} {n g : Nat} {xs : List Value} (h : BufS lo hi w v n 1 xs g) : Row1 w v xs := by
  obtain ⟨ad, cap, rfl, h1, h2, h3, h4, h5⟩ := h
  have hn : xs.length = n := by omega
  refine ⟨ad, cap, by rw [hn], by omega, h2, fun h0 => ?_⟩
  obtain ⟨h6, _, _, _, h10⟩ := h5 (by omega)
  exact ⟨g, 0, h6, h10⟩
theorem BufS.wr1 {lo hi : Nat} {w : World} {v : Value} {n g : Nat} {xs : List Value} (h : BufS lo hi w v n 1 xs g) : Wr1 w v n g := by
  obtain ⟨ad, cap, rfl, h1, h2, h3, h4, h5⟩ := h
  refine ⟨ad, cap, rfl, h1, h2, fun h0 => ?_⟩
  obtain ⟨h6, _, _, h9, _⟩ := h5 (by omega)
  exact ⟨0, h6, by have := h9.sub (k := 0) (m := n) (by omega); simpa using this⟩
theorem BufS.nil (lo hi : Nat) (w : World) (sz g : Nat) : BufS lo hi w (.slice none 0 0) 0 sz [] g := ⟨none, 0, rfl, Nat.le_refl _, by omega, by simp, fun p h => (by cases h), fun h => absurd h (by omega)⟩
theorem BufS.zero (lo hi : Nat) (w : World) (b o sz g : Nat) : BufS lo hi w (.slice (some ⟨b, o, none⟩) 0 0) 0 sz [] g := ⟨some ⟨b, o, none⟩, 0, rfl, Nat.le_refl _, by omega, by simp, fun p h => by cases h; exact ⟨_, _, rfl⟩, fun h => absurd h (by omega)⟩
theorem BufS.of_buf {lo : Nat} {w : World} {ad : Option Addr} {n cap sz : Nat} {xs : List Value} (h : Buf lo w ad n cap sz xs) : ∃ g, BufS lo w.heap.size w (.slice ad n cap) n sz xs g ∧ (0 < cap → lo ≤ g) := by
  cases ad with
  | none => exact ⟨lo, ⟨none, cap, rfl, h.le, h.max, h.len, fun p e => (by cases e), fun h0 => by have := h.nil rfl; omega⟩, fun h0 => by have := h.nil rfl; omega⟩
  | some p =>
    obtain ⟨g, rfl, h1, h2, h3, h4⟩ := h.at_ p rfl
    exact ⟨g, ⟨_, cap, rfl, h.le, h.max, h.len, fun p e => by cases e; exact ⟨_, _, rfl⟩, fun _ => ⟨rfl, h1, h2, h3, h4⟩⟩, fun _ => h1⟩
theorem BufS.of_owns {lo : Nat} {w : World} {e : TypeId} {v : Value} {n : Nat} {xs : List Value} (h : w.ownsRow lo e 1 v n xs) : ∃ g, BufS lo w.heap.size w v n 1 xs g := by
  obtain ⟨h0, h1⟩ := h
  rcases h1 with ⟨rfl, rfl⟩ | ⟨g, cap, cur, rfl, hb, hg, hl, hm, hs, ht⟩
  · have : xs = [] := List.eq_nil_of_length_eq_zero (by simpa using h0)
    subst this
    exact ⟨lo, BufS.nil _ _ _ _ _⟩
  · have hlt : g < w.heap.size := by
      rcases Nat.lt_or_ge g w.heap.size with h | h
      · exact h
      · rw [Array.getElem?_eq_none h] at hg; cases hg
    refine ⟨g, _, cap, rfl, hl, by unfold maxLen at hm; exact hm, h0, fun p e => by cases e; exact ⟨_, _, rfl⟩, fun _ => ⟨rfl, hb, hlt, MutN.of_block hg (by omega), ?_⟩⟩
    refine CellsAt.mk fun i u hi => ?_
    simp only [Nat.zero_add, World.cell?, hg]
    rw [if_neg (by simp)]
    rw [← ht, List.getElem?_take] at hi
    split at hi
    · simpa using hi
    · cases hi

/-- append to such a slice. -/
theorem AppV.bufS {H : List OE} {A : World} {e : TypeId} {sz bytes : Nat} {z : Value} {ad : Option Addr} {n cap m b o lo hi g : Nat} {xs news : List Value} {K : Value → World → Prop}
    (hb : BufS lo hi A (.slice ad n cap) n sz xs g) (hm : 0 < m) (hsrc : CellsAt A b o news) (hlen : news.length = m * sz) (h1 : ∀ c, c ∈ news → c.oneCell' = true) (hne : 0 < cap → OwnNe H g)
    (hbytes : (n + m) * bytes ≤ 140737488355328) (hmax : n + m ≤ 9223372036854775807) (hz : z.cells.size = sz) (hlo : lo ≤ A.heap.size) (hhi : hi ≤ A.heap.size)
    (k : ∀ v' A' g', BufS lo A'.heap.size A' v' (n + m) sz (xs ++ news) g' → 0 < capV v' → ((g' = g ∧ 0 < cap ∧ A' = setL A g (n * sz) news) ∨ (A.heap.size ≤ g' ∧ Ext A A')) → K v' A') :
    AppV H A e sz bytes z ad n cap (some ⟨b, o, none⟩) m K := by
  obtain ⟨ad', cap', e1, hle, hcm, hxl, hpl, hat⟩ := hb
  cases e1
  refine ⟨news, hlen, h1, fun p hp _ => ?_, fun h => (by cases h), fun hfit => ⟨fun p hp => ?_, ?_⟩, fun hgrow => ⟨hbytes, hmax, xs, hxl, fun p hp => ?_, fun hn => ?_, fun c hc1 hc2 g1 w1 hx1 hg1 hg2 hg3 _ => ?_⟩⟩
  · cases hp; exact ⟨b, o, rfl, hsrc⟩
  · obtain ⟨e2, h3, h4, h5, h6⟩ := hat (by omega)
    rw [hp] at e2
    cases e2
    refine ⟨g, 0, rfl, h5.sub ?_, hne (by omega)⟩
    rw [← Nat.add_mul]; exact Nat.mul_le_mul_right _ hfit
  · obtain ⟨e2, h3, h4, h5, h6⟩ := hat (by omega)
    subst e2
    have hroom : MutN A g (0 + n * sz) news.length := by
      rw [hlen]
      refine h5.sub ?_
      rw [← Nat.add_mul]; exact Nat.mul_le_mul_right _ hfit
    show K _ (setL A g (0 + n * sz) news)
    rw [Nat.zero_add] at hroom ⊢
    refine k _ _ g ⟨some ⟨g, 0, none⟩, cap, rfl, hfit, hcm, by rw [List.length_append, hxl, hlen, Nat.add_mul], fun p e => by cases e; exact ⟨_, _, rfl⟩, fun _ => ⟨rfl, h3, by rw [setL_size]; omega, MutN.setL _ _ _ h5, CellsAt.append (h6.setL_out (.inr (.inl (by rw [hxl]; omega)))) ?_⟩⟩ (by show 0 < cap; omega) (.inl ⟨rfl, by omega, rfl⟩)
    rw [hxl, Nat.zero_add]
    exact CellsAt.setL_in hroom
  · obtain ⟨b1, o1, e2⟩ := hpl p hp
    rcases Nat.eq_zero_or_pos cap with h0 | h0
    · have hn0 : n = 0 := by omega
      have : xs = [] := List.eq_nil_of_length_eq_zero (by rw [hxl, hn0]; simp)
      exact ⟨b1, o1, e2, by rw [this]; exact CellsAt.nil⟩
    · obtain ⟨e3, _, _, _, h6⟩ := hat h0
      rw [hp] at e3
      cases e3
      exact ⟨g, 0, rfl, h6⟩
  · rcases Nat.eq_zero_or_pos cap with h0 | h0
    · omega
    · obtain ⟨e3, _⟩ := hat h0
      rw [hn] at e3; cases e3
  · have hsize : ((xs ++ news).toArray ++ Builtin.zeroCells z.cells (c - (n + m))).size = c * sz := by
      rw [Array.size_append, size_zeroCells, hz, List.size_toArray, List.length_append, hxl, hlen, ← Nat.add_mul, ← Nat.add_mul]
      congr 1; omega
    refine k _ w1 g1 ⟨some ⟨g1, 0, none⟩, c, rfl, hc1, hc2, by rw [List.length_append, hxl, hlen, Nat.add_mul], fun p e => by cases e; exact ⟨_, _, rfl⟩, fun _ => ⟨rfl, by omega, hg2, MutN.of_block hg3 (by omega), CellsAt.mk fun i v hi => ?_⟩⟩ (by show 0 < c; omega) (.inr ⟨hg1, hx1⟩)
    have hlt := (List.getElem?_eq_some_iff.1 hi).1
    simp only [World.cell?, hg3]
    rw [if_neg (by simp), Nat.zero_add, Array.getElem?_append_left (by simpa using hlt)]
    simpa using hi

attribute [local irreducible] WpC WpL WpD WpE WpB CallV QCallV Made AppV Ld LdN Ix EndV I64 MutN Mut CellsAt
/-! ### Trees -/
def cont (n : Nd) : Bool → List Value
  | true => strs n.names
  | false => ints n.kids
def contN (n : Nd) : Bool → Nat
  | true => n.names.length
  | false => n.kids.length
theorem cont_len (n : Nd) (b : Bool) : (cont n b).length = contN n b := by cases b <;> simp [cont, contN]
/-- The nodes in a block g, their names and kids in blocks of their own. -/
structure TB (lo hi : Nat) (w : World) (ad : Option Addr) (cap g : Nat) (ts : List Nd) (bl : Nat → Bool → Nat) (pv : Nat → Bool → Value) : Prop where
  le : ts.length ≤ cap
  max : cap ≤ 9223372036854775807
  plain : ∀ p, ad = some p → ∃ b o, p = ⟨b, o, none⟩
  at_ : 0 < cap → ad = some ⟨g, 0, none⟩ ∧ lo ≤ g ∧ g < hi ∧ MutN w g 0 (cap * 7) ∧ ∀ i n, ts[i]? = some n → CellsAt w g (i * 7) (n.cells (pv i true) (pv i false))
  pc : ∀ i n b, ts[i]? = some n → BufS lo hi w (pv i b) (contN n b) 1 (cont n b) (bl i b)
  ne : ∀ i b j b', i < ts.length → j < ts.length → (i ≠ j ∨ b ≠ b') → 0 < capV (pv i b) → 0 < capV (pv j b') → bl i b ≠ bl j b'
  neG : ∀ i b, i < ts.length → 0 < capV (pv i b) → bl i b ≠ g
def TreeB (lo hi : Nat) (w : World) (v : Value) (ts : List Nd) : Prop := ∃ (ad : Option Addr) (cap g : Nat) (bl : Nat → Bool → Nat) (pv : Nat → Bool → Value), v = .slice ad ts.length cap ∧ TB lo hi w ad cap g ts bl pv
theorem TB.ext {lo hi hi' : Nat} {w w' : World} {ad : Option Addr} {cap g : Nat} {ts : List Nd} {bl : Nat → Bool → Nat} {pv : Nat → Bool → Value} (h : TB lo hi w ad cap g ts bl pv) (hx : Ext w w') (hh : hi ≤ hi') : TB lo hi' w' ad cap g ts bl pv :=
  ⟨h.le, h.max, h.plain, fun h0 => let ⟨a, b, c, d, e⟩ := h.at_ h0; ⟨a, b, by omega, d.ext hx, fun i n hi => (e i n hi).ext hx⟩, fun i n b hi => (h.pc i n b hi).ext hx hh, h.ne, h.neG⟩
theorem TreeB.ext {lo hi hi' : Nat} {w w' : World} {v : Value} {ts : List Nd} (h : TreeB lo hi w v ts) (hx : Ext w w') (hh : hi ≤ hi') : TreeB lo hi' w' v ts := by
  obtain ⟨ad, cap, g, bl, pv, e, h⟩ := h
  exact ⟨ad, cap, g, bl, pv, e, h.ext hx hh⟩
theorem TB.low {lo lo' hi : Nat} {w : World} {ad : Option Addr} {cap g : Nat} {ts : List Nd} {bl : Nat → Bool → Nat} {pv : Nat → Bool → Value} (h : TB lo hi w ad cap g ts bl pv) (hl : lo' ≤ lo) : TB lo' hi w ad cap g ts bl pv :=
  ⟨h.le, h.max, h.plain, fun h0 => let ⟨a, b, c⟩ := h.at_ h0; ⟨a, by omega, c⟩, fun i n b hi => (h.pc i n b hi).low hl, h.ne, h.neG⟩
theorem TreeB.low {lo lo' hi : Nat} {w : World} {v : Value} {ts : List Nd} (h : TreeB lo hi w v ts) (hl : lo' ≤ lo) : TreeB lo' hi w v ts := by
  obtain ⟨ad, cap, g, bl, pv, e, h⟩ := h
  exact ⟨ad, cap, g, bl, pv, e, h.low hl⟩
theorem TB.ndIn {lo hi : Nat} {w : World} {ad : Option Addr} {cap g : Nat} {ts : List Nd} {bl : Nat → Bool → Nat} {pv : Nat → Bool → Value} (h : TB lo hi w ad cap g ts bl pv) {i : Nat} {n : Nd} (hi' : ts[i]? = some n) : NdIn w n (pv i true) (pv i false) :=
  ⟨(h.pc i n true hi').row1, (h.pc i n false hi').row1⟩
theorem TreeB.treeW {lo hi : Nat} {w : World} {v : Value} {ts : List Nd} (h : TreeB lo hi w v ts) : TreeW lo hi w v ts := by
  obtain ⟨ad, cap, g, bl, pv, e, h⟩ := h
  have piece : ∀ p, 0 < cnt ts p → ∃ n, ts[p / 2]? = some n ∧ 0 < contN n (p % 2 == 0) ∧ p / 2 < ts.length ∧ 0 < capV (pv (p / 2) (p % 2 == 0)) := by
    intro p hp
    unfold cnt at hp
    cases hn : ts[p / 2]? with
    | none => rw [hn] at hp; simp at hp
    | some n =>
      rw [hn] at hp
      simp only at hp
      have hc : 0 < contN n (p % 2 == 0) := by
        by_cases h2 : p % 2 = 0
        · rw [if_pos h2] at hp; simpa [h2, contN] using hp
        · rw [if_neg h2] at hp
          have : (p % 2 == 0) = false := by simpa using h2
          rw [this]; exact hp
      obtain ⟨ad', cap', e', hl, _⟩ := h.pc (p / 2) n (p % 2 == 0) hn
      exact ⟨n, rfl, hc, (List.getElem?_eq_some_iff.1 hn).1, by rw [e']; show 0 < cap'; omega⟩
  have even : ∀ i : Nat, (2 * i % 2 == 0) = true ∧ 2 * i / 2 = i := fun i => ⟨by simp, by omega⟩
  have odd : ∀ i : Nat, ((2 * i + 1) % 2 == 0) = false ∧ (2 * i + 1) / 2 = i := fun i => ⟨by simp, by omega⟩
  refine ⟨ad, cap, g, fun p => bl (p / 2) (p % 2 == 0), fun i => pv i true, fun i => pv i false, e, h.le, h.max, ⟨fun i n hi' => ⟨h.ndIn hi', ?_, ?_⟩, fun p hp => ?_, fun p q hpq hp hq => ?_⟩, fun h0 => ?_, fun p hp => ?_⟩
  · have := (h.pc i n true hi').wr1
    simpa [(even i).1, (even i).2, contN] using this
  · have := (h.pc i n false hi').wr1
    simpa [(odd i).1, (odd i).2, contN] using this
  · obtain ⟨n, hn, hc, hlt, hcp⟩ := piece p hp
    obtain ⟨ad', cap', e', hl, _, _, _, hat⟩ := h.pc (p / 2) n (p % 2 == 0) hn
    rw [e'] at hcp
    obtain ⟨_, h1, h2, _⟩ := hat hcp
    exact ⟨h1, h2⟩
  · obtain ⟨n, hn, hc, hlt, hcp⟩ := piece p hp
    obtain ⟨m, hm, hc', hlt', hcq⟩ := piece q hq
    refine h.ne _ _ _ _ hlt hlt' ?_ hcp hcq
    by_cases h1 : p / 2 = q / 2
    · right
      intro h2
      have : p % 2 = q % 2 := by
        rcases Nat.mod_two_eq_zero_or_one p with h3 | h3 <;> rcases Nat.mod_two_eq_zero_or_one q with h4 | h4 <;> rw [h3, h4] at h2 <;> first | omega | (simp at h2)
      omega
    · exact .inl h1
  · obtain ⟨h1, h2, h3, h4, h5⟩ := h.at_ (by have := h.le; omega)
    exact ⟨h2, h3, 0, h1, by have := h4.sub (k := 0) (m := ts.length * 7) (by have := h.le; omega); simpa using this, fun i n hi' => by rw [Nat.zero_add]; exact h5 i n hi'⟩
  · obtain ⟨n, hn, hc, hlt, hcp⟩ := piece p hp
    exact h.neG _ _ hlt hcp
theorem TreeB.tree {lo hi : Nat} {w : World} {v : Value} {ts : List Nd} (h : TreeB lo hi w v ts) : Tree w v ts := h.treeW.tree
end Go.Proofs.YtbnjjpgacemicaaGreatDoor
