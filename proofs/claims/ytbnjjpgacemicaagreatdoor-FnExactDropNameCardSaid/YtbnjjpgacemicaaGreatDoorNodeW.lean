/-
  Trees that are the call's own: every slice in a block of its own.
  Conditions: none.
-/
import Derived.Test.YtbnjjpgacemicaaGreatDoorNode
namespace Go.Proofs.YtbnjjpgacemicaaGreatDoor
open Go.RowKit Vc
attribute [local irreducible] WpC WpL WpD CallV QCallV Made AppV Ld LdN Ix EndV I64 MutN Mut CellsAt

/-- How many cells the slices of nodes have: names at 2 i, kids at 2 i + 1. -/
def cnt (ts : List Nd) (p : Nat) : Nat := match ts[p / 2]? with
  | none => 0
  | some n => if p % 2 = 0 then n.names.length else n.kids.length
theorem cnt_names {ts : List Nd} {i : Nat} {n : Nd} (h : ts[i]? = some n) : cnt ts (2 * i) = n.names.length := by
  unfold cnt
  rw [show 2 * i / 2 = i by omega, h]
  simp
theorem cnt_kids {ts : List Nd} {i : Nat} {n : Nd} (h : ts[i]? = some n) : cnt ts (2 * i + 1) = n.kids.length := by
  unfold cnt
  rw [show (2 * i + 1) / 2 = i by omega, h]
  simp
theorem cnt_pos {ts : List Nd} {p : Nat} (h : 0 < cnt ts p) : p / 2 < ts.length := by
  unfold cnt at h
  split at h
  · omega
  · rename_i n hn; exact (List.getElem?_eq_some_iff.1 hn).1

/-- The slices of nodes, each in a block of its own. -/
structure Pcs (lo hi : Nat) (w : World) (ts : List Nd) (blk : Nat → Nat) (nv kv : Nat → Value) : Prop where
  nd : ∀ i n, ts[i]? = some n → NdIn w n (nv i) (kv i) ∧ Wr1 w (nv i) n.names.length (blk (2 * i)) ∧ Wr1 w (kv i) n.kids.length (blk (2 * i + 1))
  rng : ∀ p, 0 < cnt ts p → lo ≤ blk p ∧ blk p < hi
  ne : ∀ p q, p ≠ q → 0 < cnt ts p → 0 < cnt ts q → blk p ≠ blk q
theorem Wr1.inB {w : World} {v : Value} {n g lo hi : Nat} (h : Wr1 w v n g) (hb : 0 < n → lo ≤ g ∧ g < hi) : InB lo hi v := by
  obtain ⟨ad, cap, rfl, _, _, h4⟩ := h
  intro p n' c e h0
  cases e
  obtain ⟨o, e, _⟩ := h4 h0
  cases e
  exact hb h0
theorem Wr1.ext {w w' : World} {v : Value} {n g : Nat} (h : Wr1 w v n g) (hx : Ext w w') : Wr1 w' v n g := by
  obtain ⟨ad, cap, e, hl, hm, h4⟩ := h
  exact ⟨ad, cap, e, hl, hm, fun h0 => let ⟨o, e2, h5⟩ := h4 h0; ⟨o, e2, h5.ext hx⟩⟩
theorem Pcs.agree {lo hi : Nat} {w w' : World} {ts : List Nd} {blk : Nat → Nat} {nv kv : Nat → Value} (h : Pcs lo hi w ts blk nv kv) (ha : Agree lo hi w w') : Pcs lo hi w' ts blk nv kv := by
  refine ⟨fun i n hi' => ?_, h.rng, h.ne⟩
  obtain ⟨⟨h1, h2⟩, h3, h4⟩ := h.nd i n hi'
  have r1 := h.rng (2 * i)
  have r2 := h.rng (2 * i + 1)
  rw [cnt_names hi'] at r1
  rw [cnt_kids hi'] at r2
  exact ⟨⟨h1.agree (h3.inB r1) ha, h2.agree (h4.inB r2) ha⟩, h3.agree ha r1, h4.agree ha r2⟩
theorem Pcs.ext {lo hi : Nat} {w w' : World} {ts : List Nd} {blk : Nat → Nat} {nv kv : Nat → Value} (h : Pcs lo hi w ts blk nv kv) (hx : Ext w w') : Pcs lo hi w' ts blk nv kv := by
  refine ⟨fun i n hi' => ?_, h.rng, h.ne⟩
  obtain ⟨h1, h3, h4⟩ := h.nd i n hi'
  exact ⟨h1.ext hx, h3.ext hx, h4.ext hx⟩
theorem Pcs.mono {lo hi lo' hi' : Nat} {w : World} {ts : List Nd} {blk : Nat → Nat} {nv kv : Nat → Value} (h : Pcs lo hi w ts blk nv kv) (h1 : lo' ≤ lo) (h2 : hi ≤ hi') : Pcs lo' hi' w ts blk nv kv :=
  ⟨h.nd, fun p hp => by have := h.rng p hp; omega, h.ne⟩
theorem Pcs.nil (lo hi : Nat) (w : World) (blk : Nat → Nat) (nv kv : Nat → Value) : Pcs lo hi w [] blk nv kv :=
  ⟨fun i n h => by simp at h, fun p h => by simp [cnt] at h, fun p q _ h => by simp [cnt] at h⟩
def upd {α : Type} (f : Nat → α) (i : Nat) (x : α) : Nat → α := fun j => if j = i then x else f j
theorem cnt_snoc {ts : List Nd} {n : Nd} {p : Nat} : cnt (ts ++ [n]) p = if p / 2 < ts.length then cnt ts p else if p = 2 * ts.length then n.names.length else if p = 2 * ts.length + 1 then n.kids.length else 0 := by
  unfold cnt
  by_cases h1 : p / 2 < ts.length
  · rw [if_pos h1, List.getElem?_append_left h1]
  · rw [if_neg h1, List.getElem?_append_right (by omega)]
    by_cases h2 : p = 2 * ts.length
    · subst h2
      rw [if_pos rfl, show 2 * ts.length / 2 - ts.length = 0 by omega]
      simp
    · rw [if_neg h2]
      by_cases h3 : p = 2 * ts.length + 1
      · subst h3
        rw [if_pos rfl, show (2 * ts.length + 1) / 2 - ts.length = 0 by omega]
        simp
      · rw [if_neg h3, List.getElem?_eq_none (by simp; omega)]
/-- One node more. -/
theorem Pcs.snoc {lo hi hi' : Nat} {w : World} {ts : List Nd} {blk : Nat → Nat} {nv kv : Nat → Value} (h : Pcs lo hi w ts blk nv kv) {n : Nd} {v1 v2 : Value} {b1 b2 : Nat} (hN : NdIn w n v1 v2) (hW1 : Wr1 w v1 n.names.length b1) (hW2 : Wr1 w v2 n.kids.length b2)
    (hh : hi ≤ hi') (r1 : 0 < n.names.length → hi ≤ b1 ∧ b1 < hi') (r2 : 0 < n.kids.length → hi ≤ b2 ∧ b2 < hi') (hne : 0 < n.names.length → 0 < n.kids.length → b1 ≠ b2) (hlo : lo ≤ hi) :
    Pcs lo hi' w (ts ++ [n]) (upd (upd blk (2 * ts.length) b1) (2 * ts.length + 1) b2) (upd nv ts.length v1) (upd kv ts.length v2) := by
  have cases' : ∀ p, 0 < cnt (ts ++ [n]) p → (p / 2 < ts.length ∧ 0 < cnt ts p ∧ upd (upd blk (2 * ts.length) b1) (2 * ts.length + 1) b2 p = blk p) ∨ (p = 2 * ts.length ∧ 0 < n.names.length ∧ upd (upd blk (2 * ts.length) b1) (2 * ts.length + 1) b2 p = b1) ∨
      (p = 2 * ts.length + 1 ∧ 0 < n.kids.length ∧ upd (upd blk (2 * ts.length) b1) (2 * ts.length + 1) b2 p = b2) := by
    intro p hp
    rw [cnt_snoc] at hp
    split at hp
    · rename_i h1
      refine .inl ⟨h1, hp, ?_⟩
      unfold upd
      rw [if_neg (by omega), if_neg (by omega)]
    · split at hp
      · rename_i h2
        subst h2
        refine .inr (.inl ⟨rfl, hp, ?_⟩)
        unfold upd
        rw [if_neg (by omega), if_pos rfl]
      · split at hp
        · rename_i h3
          subst h3
          exact .inr (.inr ⟨rfl, hp, by simp [upd]⟩)
        · omega
  refine ⟨fun i m hi' => ?_, fun p hp => ?_, fun p q hpq hp hq => ?_⟩
  · by_cases hlt : i < ts.length
    · rw [List.getElem?_append_left hlt] at hi'
      have := h.nd i m hi'
      unfold upd
      rw [if_neg (by omega), if_neg (by omega), if_neg (by omega), if_neg (by omega), if_neg (by omega), if_neg (by omega)]
      exact this
    · rw [List.getElem?_append_right (by omega)] at hi'
      have : i = ts.length := by
        rcases Nat.eq_zero_or_pos (i - ts.length) with h | h
        · omega
        · rw [List.getElem?_eq_none (by simp; omega)] at hi'; cases hi'
      subst this
      simp at hi'
      subst hi'
      unfold upd
      rw [if_pos rfl, if_pos rfl, if_neg (by omega), if_pos rfl, if_pos rfl]
      exact ⟨hN, hW1, hW2⟩
  · rcases cases' p hp with ⟨h1, h2, e⟩ | ⟨h1, h2, e⟩ | ⟨h1, h2, e⟩ <;> rw [e]
    · have := h.rng p h2; omega
    · have := r1 h2; omega
    · have := r2 h2; omega
  · rcases cases' p hp with ⟨h1, h2, e⟩ | ⟨h1, h2, e⟩ | ⟨h1, h2, e⟩ <;> rcases cases' q hq with ⟨h3, h4, e'⟩ | ⟨h3, h4, e'⟩ | ⟨h3, h4, e'⟩ <;> rw [e, e']
    · exact h.ne p q hpq h2 h4
    · have := h.rng p h2; have := r1 h4; omega
    · have := h.rng p h2; have := r2 h4; omega
    · have := h.rng q h4; have := r1 h2; omega
    · omega
    · exact hne h2 h4
    · have := h.rng q h4; have := r2 h2; omega
    · exact (hne h4 h2).symm
    · omega

/-- A slice of nodes in memory of its own. -/
def TreeW (lo hi : Nat) (w : World) (v : Value) (ts : List Nd) : Prop := ∃ (ad : Option Addr) (cap g : Nat) (blk : Nat → Nat) (nv kv : Nat → Value), v = .slice ad ts.length cap ∧ ts.length ≤ cap ∧ cap ≤ 9223372036854775807 ∧ Pcs lo hi w ts blk nv kv ∧
  (0 < ts.length → lo ≤ g ∧ g < hi ∧ ∃ o, ad = some ⟨g, o, none⟩ ∧ MutN w g o (ts.length * 7) ∧ ∀ i n, ts[i]? = some n → CellsAt w g (o + i * 7) (n.cells (nv i) (kv i))) ∧
  ∀ p, 0 < cnt ts p → blk p ≠ g
theorem TreeW.tree {lo hi : Nat} {w : World} {v : Value} {ts : List Nd} (h : TreeW lo hi w v ts) : Tree w v ts := by
  obtain ⟨ad, cap, g, blk, nv, kv, rfl, h1, h2, hp, hr, _⟩ := h
  refine ⟨ad, cap, rfl, h1, h2, fun h0 => ?_⟩
  obtain ⟨_, _, o, rfl, _, hc⟩ := hr h0
  refine ⟨g, o, rfl, ?_, fun i n hi => ⟨nv i, kv i, hc i n hi, (hp.nd i n hi).1⟩⟩
  have hn : ts[0]? = some ts[0] := List.getElem?_eq_getElem h0
  exact (hc 0 _ hn).lt (by simp)
theorem TreeW.ext {lo hi : Nat} {w w' : World} {v : Value} {ts : List Nd} (h : TreeW lo hi w v ts) (hx : Ext w w') : TreeW lo hi w' v ts := by
  obtain ⟨ad, cap, g, blk, nv, kv, e, h1, h2, hp, hr, hne⟩ := h
  exact ⟨ad, cap, g, blk, nv, kv, e, h1, h2, hp.ext hx, fun h0 => let ⟨a, b, o, e2, hm, hc⟩ := hr h0; ⟨a, b, o, e2, hm.ext hx, fun i n hi => (hc i n hi).ext hx⟩, hne⟩
theorem TreeW.agree {lo hi : Nat} {w w' : World} {v : Value} {ts : List Nd} (h : TreeW lo hi w v ts) (ha : Agree lo hi w w') : TreeW lo hi w' v ts := by
  obtain ⟨ad, cap, g, blk, nv, kv, e, h1, h2, hp, hr, hne⟩ := h
  exact ⟨ad, cap, g, blk, nv, kv, e, h1, h2, hp.agree ha, fun h0 => let ⟨a, b, o, e2, hm, hc⟩ := hr h0; ⟨a, b, o, e2, hm.agree ha a b, fun i n hi => (hc i n hi).agree ha a b⟩, hne⟩
theorem TreeW.mono {lo hi lo' hi' : Nat} {w : World} {v : Value} {ts : List Nd} (h : TreeW lo hi w v ts) (h1 : lo' ≤ lo) (h2 : hi ≤ hi') : TreeW lo' hi' w v ts := by
  obtain ⟨ad, cap, g, blk, nv, kv, e, a1, a2, hp, hr, hne⟩ := h
  exact ⟨ad, cap, g, blk, nv, kv, e, a1, a2, hp.mono h1 h2, fun h0 => let ⟨a, b, r⟩ := hr h0; ⟨by omega, by omega, r⟩, hne⟩

theorem full_cells {w : World} {g n : Nat} {xs : List Value} {cs : Array Value} {t : TypeId} (hg : w.heap[g]? = some (.cells cs t (0, 0))) (hs : cs.size = n) (hl : xs.length = n) (hc : CellsAt w g 0 xs) : cs = xs.toArray := by
  apply Array.ext
  · simp [hs, hl]
  · intro i h1 h2
    have h3 : xs[i]? = some xs[i] := List.getElem?_eq_getElem (by omega)
    have := hc.out i _ h3
    simp only [Nat.zero_add, World.cell?, hg] at this
    simp only [Option.isSome_none, Bool.false_eq_true, if_false] at this
    rw [Array.getElem?_eq_getElem h1] at this
    simpa using this
theorem setL_cells {w : World} {g : Nat} {cs : Array Value} {t : TypeId} (o : Nat) (l : List Value) (h : w.heap[g]? = some (.cells cs t (0, 0))) : ∃ cs' : Array Value, (setL w g o l).heap[g]? = some (.cells cs' t (0, 0)) ∧ cs'.size = cs.size := by
  have := setL_here g t (0, 0) l w o cs.toList h
  exact ⟨_, this, by simp [putL_length]⟩
theorem toStringS_vc (l : List ByteArray) (v : Value) (w : World) (hU : Row1 w v (strs l)) (hl : l.length ≤ 8388608) :
    Calls Tryz.prog 75 #[v] w fun e w' => ∃ v', e = .returned v' ∧ (∃ g, v' = .slice (some ⟨g, 0, none⟩) l.length l.length ∧ w.heap.size ≤ g ∧ w'.heap[g]? = some (.cells (strs l).toArray 9 (0, 0))) ∧ Ext w w' := by
  obtain ⟨ad, cap, rfl, hlc, hcm, hat⟩ := hU
  have hlen : (strs l).length = l.length := by simp
  rw [hlen] at hlc hat ⊢
  refine calls_of cx_ok Tryz.func75 Tryz.ntmps75 Tryz.results75 rfl rfl ?_
  repeat (first | refine jC ?_ | refine jN ?_ | refine jS ?_ | refine jR ?_ | refine jT ?_ | refine jB ?_ | refine jX rfl ?_ | refine jY rfl ?_ | refine jK ?_ | refine jD ?_ | refine jE ?_)
  refine ⟨l.length, rfl, rfl, by omega, by omega, Made.mk fun g w1 hx1 hg1 hg2 hg3 _ => ?_⟩
  repeat (first | refine jC ?_ | refine jN ?_ | refine jS ?_ | refine jR ?_ | refine jT ?_ | refine jB ?_ | refine jX rfl ?_ | refine jY rfl ?_ | refine jK ?_ | refine jD ?_ | refine jE ?_)
  refine WpC.loop (α := Nat × World) (fun x => ⟨[(0, .v (.slice ad l.length cap)), (4, .v (.int .i64 (x.1 : Int))), (3, .v (.slice (some ⟨g, 0, none⟩) l.length l.length))], [], x.2⟩)
    (fun x => x.1 ≤ l.length ∧ Below g w1 x.2 ∧ CellsAt x.2 g 0 ((strs l).take x.1) ∧ ∃ cs : Array Value, x.2.heap[g]? = some (.cells cs 9 (0, 0)) ∧ cs.size = l.length) (fun x => l.length - x.1) (0, w1)
    ⟨Nat.zero_le _, Below.refl _ _, CellsAt.nil, _, hg3, by rw [size_madeCells]; simp⟩ ⟨⟨rfl, rfl, rfl, trivial⟩, trivial, trivial, Ext.refl _⟩ ?_
  rintro ⟨k, wk⟩ ⟨hk, hbk, hc, cs, hcs, hsz⟩
  dsimp only at hk hbk hc hcs ⊢
  repeat (first | refine jC ?_ | refine jN ?_ | refine jS ?_ | refine jR ?_ | refine jT ?_ | refine jB ?_ | refine jX rfl ?_ | refine jY rfl ?_ | refine jK ?_ | refine jD ?_ | refine jE ?_)
  refine Br.intro (fun h => ?_) (fun h => ?_)
  · have hlt : k < l.length := by have := of_decide_eq_true h; omega
    obtain ⟨b, o, rfl, hcu⟩ := hat (by omega)
    have hu : (strs l)[k]? = some (.string l[k]) := by simp [hlt]
    have hbl := hcu.lt (by rw [hlen]; omega)
    repeat (first | refine jC ?_ | refine jN ?_ | refine jS ?_ | refine jR ?_ | refine jT ?_ | refine jB ?_ | refine jX rfl ?_ | refine jY rfl ?_ | refine jK ?_ | refine jD ?_ | refine jE ?_)
    refine Ix.mk k rfl hlt ?_
    repeat (first | refine jC ?_ | refine jN ?_ | refine jS ?_ | refine jR ?_ | refine jT ?_ | refine jB ?_ | refine jX rfl ?_ | refine jY rfl ?_ | refine jK ?_ | refine jD ?_ | refine jE ?_)
    refine Ld.mk (((hcu.ext hx1).below hbk (.inr (Nat.lt_of_lt_of_le hbl hg1))).out k _ hu) ?_
    repeat (first | refine jC ?_ | refine jN ?_ | refine jS ?_ | refine jR ?_ | refine jT ?_ | refine jB ?_ | refine jX rfl ?_ | refine jY rfl ?_ | refine jK ?_ | refine jD ?_ | refine jE ?_)
    refine Ix.mk k rfl hlt ?_
    repeat (first | refine jC ?_ | refine jN ?_ | refine jS ?_ | refine jR ?_ | refine jT ?_ | refine jB ?_ | refine jX rfl ?_ | refine jY rfl ?_ | refine jK ?_ | refine jD ?_ | refine jE ?_)
    have hm : MutN wk g (0 + k) 1 := MutN.of_block hcs (by omega)
    refine ⟨hm, trivial, rfl, by simp [Value.oneCell'], ?_⟩
    repeat (first | refine jC ?_ | refine jN ?_ | refine jS ?_ | refine jR ?_ | refine jT ?_ | refine jB ?_ | refine jX rfl ?_ | refine jY rfl ?_ | refine jK ?_ | refine jD ?_ | refine jE ?_)
    refine ⟨I64.mk (by omega), ?_⟩
    repeat (first | refine jC ?_ | refine jN ?_ | refine jS ?_ | refine jR ?_ | refine jT ?_ | refine jB ?_ | refine jX rfl ?_ | refine jY rfl ?_ | refine jK ?_ | refine jD ?_ | refine jE ?_)
    refine ⟨(k + 1, setL wk g (0 + k) [.string l[k]]), ⟨hlt, below_setL hbk (Nat.le_refl _) _ _, ?_, ?_⟩, by show l.length - (k + 1) < l.length - k; omega, ⟨rfl, rfl, rfl, trivial⟩, trivial, trivial, Ext.refl _⟩
    · show CellsAt (setL wk g (0 + k) [.string l[k]]) g 0 ((strs l).take (k + 1))
      rw [List.take_succ_eq_append_getElem (by rw [hlen]; exact hlt)]
      have e : ((strs l).take k).length = k := by simp; omega
      refine CellsAt.append (hc.setL_out (.inr (.inl (by rw [e]; omega)))) ?_
      rw [e, show (strs l)[k] = .string l[k] by simp]
      exact CellsAt.setL_in hm
    · obtain ⟨cs', h1, h2⟩ := setL_cells (0 + k) [.string l[k]] hcs
      exact ⟨cs', h1, by omega⟩
  · have hke : k = l.length := by have := of_decide_eq_false h; omega
    subst hke
    repeat (first | refine jC ?_ | refine jN ?_ | refine jS ?_ | refine jR ?_ | refine jT ?_ | refine jB ?_ | refine jX rfl ?_ | refine jY rfl ?_ | refine jK ?_ | refine jD ?_ | refine jE ?_)
    refine EndV.mk fun w' hw' => ⟨_, rfl, ⟨g, rfl, hg1, ?_⟩, (hx1.trans' (hbk.mono hg1)).trans hw'⟩
    have hgk : g < wk.heap.size := by have := hbk.size; omega
    rw [hw'.block g hgk, hcs, full_cells hcs hsz hlen (by rw [← hlen, List.take_length] at hc; exact hc)]
theorem toIntS_vc (l : List Int) (v : Value) (w : World) (hU : Row1 w v (ints l)) (hl : l.length ≤ 8388608) :
    Calls Tryz.prog 76 #[v] w fun e w' => ∃ v', e = .returned v' ∧ (∃ g, v' = .slice (some ⟨g, 0, none⟩) l.length l.length ∧ w.heap.size ≤ g ∧ w'.heap[g]? = some (.cells (ints l).toArray 3 (0, 0))) ∧ Ext w w' := by
  obtain ⟨ad, cap, rfl, hlc, hcm, hat⟩ := hU
  have hlen : (ints l).length = l.length := by simp
  rw [hlen] at hlc hat ⊢
  refine calls_of cx_ok Tryz.func76 Tryz.ntmps76 Tryz.results76 rfl rfl ?_
  repeat (first | refine jC ?_ | refine jN ?_ | refine jS ?_ | refine jR ?_ | refine jT ?_ | refine jB ?_ | refine jX rfl ?_ | refine jY rfl ?_ | refine jK ?_ | refine jD ?_ | refine jE ?_)
  refine ⟨l.length, rfl, rfl, by omega, by omega, Made.mk fun g w1 hx1 hg1 hg2 hg3 _ => ?_⟩
  repeat (first | refine jC ?_ | refine jN ?_ | refine jS ?_ | refine jR ?_ | refine jT ?_ | refine jB ?_ | refine jX rfl ?_ | refine jY rfl ?_ | refine jK ?_ | refine jD ?_ | refine jE ?_)
  refine WpC.loop (α := Nat × World) (fun x => ⟨[(0, .v (.slice ad l.length cap)), (4, .v (.int .i64 (x.1 : Int))), (3, .v (.slice (some ⟨g, 0, none⟩) l.length l.length))], [], x.2⟩)
    (fun x => x.1 ≤ l.length ∧ Below g w1 x.2 ∧ CellsAt x.2 g 0 ((ints l).take x.1) ∧ ∃ cs : Array Value, x.2.heap[g]? = some (.cells cs 3 (0, 0)) ∧ cs.size = l.length) (fun x => l.length - x.1) (0, w1)
    ⟨Nat.zero_le _, Below.refl _ _, CellsAt.nil, _, hg3, by rw [size_madeCells]; simp⟩ ⟨⟨rfl, rfl, rfl, trivial⟩, trivial, trivial, Ext.refl _⟩ ?_
  rintro ⟨k, wk⟩ ⟨hk, hbk, hc, cs, hcs, hsz⟩
  dsimp only at hk hbk hc hcs ⊢
  repeat (first | refine jC ?_ | refine jN ?_ | refine jS ?_ | refine jR ?_ | refine jT ?_ | refine jB ?_ | refine jX rfl ?_ | refine jY rfl ?_ | refine jK ?_ | refine jD ?_ | refine jE ?_)
  refine Br.intro (fun h => ?_) (fun h => ?_)
  · have hlt : k < l.length := by have := of_decide_eq_true h; omega
    obtain ⟨b, o, rfl, hcu⟩ := hat (by omega)
    have hu : (ints l)[k]? = some (.int .i64 l[k]) := by simp [hlt]
    have hbl := hcu.lt (by rw [hlen]; omega)
    repeat (first | refine jC ?_ | refine jN ?_ | refine jS ?_ | refine jR ?_ | refine jT ?_ | refine jB ?_ | refine jX rfl ?_ | refine jY rfl ?_ | refine jK ?_ | refine jD ?_ | refine jE ?_)
    refine Ix.mk k rfl hlt ?_
    repeat (first | refine jC ?_ | refine jN ?_ | refine jS ?_ | refine jR ?_ | refine jT ?_ | refine jB ?_ | refine jX rfl ?_ | refine jY rfl ?_ | refine jK ?_ | refine jD ?_ | refine jE ?_)
    refine Ld.mk (((hcu.ext hx1).below hbk (.inr (Nat.lt_of_lt_of_le hbl hg1))).out k _ hu) ?_
    repeat (first | refine jC ?_ | refine jN ?_ | refine jS ?_ | refine jR ?_ | refine jT ?_ | refine jB ?_ | refine jX rfl ?_ | refine jY rfl ?_ | refine jK ?_ | refine jD ?_ | refine jE ?_)
    refine Ix.mk k rfl hlt ?_
    repeat (first | refine jC ?_ | refine jN ?_ | refine jS ?_ | refine jR ?_ | refine jT ?_ | refine jB ?_ | refine jX rfl ?_ | refine jY rfl ?_ | refine jK ?_ | refine jD ?_ | refine jE ?_)
    have hm : MutN wk g (0 + k) 1 := MutN.of_block hcs (by omega)
    refine ⟨hm, trivial, rfl, by simp [Value.oneCell'], ?_⟩
    repeat (first | refine jC ?_ | refine jN ?_ | refine jS ?_ | refine jR ?_ | refine jT ?_ | refine jB ?_ | refine jX rfl ?_ | refine jY rfl ?_ | refine jK ?_ | refine jD ?_ | refine jE ?_)
    refine ⟨I64.mk (by omega), ?_⟩
    repeat (first | refine jC ?_ | refine jN ?_ | refine jS ?_ | refine jR ?_ | refine jT ?_ | refine jB ?_ | refine jX rfl ?_ | refine jY rfl ?_ | refine jK ?_ | refine jD ?_ | refine jE ?_)
    refine ⟨(k + 1, setL wk g (0 + k) [.int .i64 l[k]]), ⟨hlt, below_setL hbk (Nat.le_refl _) _ _, ?_, ?_⟩, by show l.length - (k + 1) < l.length - k; omega, ⟨rfl, rfl, rfl, trivial⟩, trivial, trivial, Ext.refl _⟩
    · show CellsAt (setL wk g (0 + k) [.int .i64 l[k]]) g 0 ((ints l).take (k + 1))
      rw [List.take_succ_eq_append_getElem (by rw [hlen]; exact hlt)]
      have e : ((ints l).take k).length = k := by simp; omega
      refine CellsAt.append (hc.setL_out (.inr (.inl (by rw [e]; omega)))) ?_
      rw [e, show (ints l)[k] = .int .i64 l[k] by simp]
      exact CellsAt.setL_in hm
    · obtain ⟨cs', h1, h2⟩ := setL_cells (0 + k) [.int .i64 l[k]] hcs
      exact ⟨cs', h1, by omega⟩
  · have hke : k = l.length := by have := of_decide_eq_false h; omega
    subst hke
    repeat (first | refine jC ?_ | refine jN ?_ | refine jS ?_ | refine jR ?_ | refine jT ?_ | refine jB ?_ | refine jX rfl ?_ | refine jY rfl ?_ | refine jK ?_ | refine jD ?_ | refine jE ?_)
    refine EndV.mk fun w' hw' => ⟨_, rfl, ⟨g, rfl, hg1, ?_⟩, (hx1.trans' (hbk.mono hg1)).trans hw'⟩
    have hgk : g < wk.heap.size := by have := hbk.size; omega
    rw [hw'.block g hgk, hcs, full_cells hcs hsz hlen (by rw [← hlen, List.take_length] at hc; exact hc)]
theorem toNode_vc (n : Nd) (nv kv : Value) (w : World) (hN : NdIn w n nv kv) (h1 : n.names.length ≤ 8388608) (h2 : n.kids.length ≤ 8388608) :
    Calls Tryz.prog 34 #[n.val nv kv] w fun e w' => ∃ v', e = .returned v' ∧ (∃ g1 g2, v' = n.val (.slice (some ⟨g1, 0, none⟩) n.names.length n.names.length) (.slice (some ⟨g2, 0, none⟩) n.kids.length n.kids.length) ∧ w.heap.size ≤ g1 ∧ w.heap.size ≤ g2 ∧ g1 ≠ g2 ∧
      w'.heap[g1]? = some (.cells (strs n.names).toArray 9 (0, 0)) ∧ w'.heap[g2]? = some (.cells (ints n.kids).toArray 3 (0, 0))) ∧ Ext w w' := by
  refine calls_of cx_ok Tryz.func34 Tryz.ntmps34 Tryz.results34 rfl rfl ?_
  repeat (first | refine jC ?_ | refine jN ?_ | refine jS ?_ | refine jR ?_ | refine jT ?_ | refine jB ?_ | refine jX rfl ?_ | refine jY rfl ?_ | refine jK ?_ | refine jD ?_ | refine jE ?_)
  intro b hb
  repeat (first | refine jC ?_ | refine jN ?_ | refine jS ?_ | refine jR ?_ | refine jT ?_ | refine jB ?_ | refine jX rfl ?_ | refine jY rfl ?_ | refine jK ?_ | refine jD ?_ | refine jE ?_)
  intro b2 hb2
  repeat (first | refine jC ?_ | refine jN ?_ | refine jS ?_ | refine jR ?_ | refine jT ?_ | refine jB ?_ | refine jX rfl ?_ | refine jY rfl ?_ | refine jK ?_ | refine jD ?_ | refine jE ?_)
  intro b3 hb3
  repeat (first | refine jC ?_ | refine jN ?_ | refine jS ?_ | refine jR ?_ | refine jT ?_ | refine jB ?_ | refine jX rfl ?_ | refine jY rfl ?_ | refine jK ?_ | refine jD ?_ | refine jE ?_)
  refine ⟨by assumption, rfl, by simp, by simp [Value.oneCell'], ?_⟩
  repeat (first | refine jC ?_ | refine jN ?_ | refine jS ?_ | refine jR ?_ | refine jT ?_ | refine jB ?_ | refine jX rfl ?_ | refine jY rfl ?_ | refine jK ?_ | refine jD ?_ | refine jE ?_)
  refine ⟨by assumption, rfl, by simp, by simp [Value.oneCell'], ?_⟩
  repeat (first | refine jC ?_ | refine jN ?_ | refine jS ?_ | refine jR ?_ | refine jT ?_ | refine jB ?_ | refine jX rfl ?_ | refine jY rfl ?_ | refine jK ?_ | refine jD ?_ | refine jE ?_)
  refine ⟨by assumption, rfl, by simp, by simp [Value.oneCell'], ?_⟩
  repeat (first | refine jC ?_ | refine jN ?_ | refine jS ?_ | refine jR ?_ | refine jT ?_ | refine jB ?_ | refine jX rfl ?_ | refine jY rfl ?_ | refine jK ?_ | refine jD ?_ | refine jE ?_)
  refine ⟨by assumption, rfl, by simp, by simp [Value.oneCell'], ?_⟩
  repeat (first | refine jC ?_ | refine jN ?_ | refine jS ?_ | refine jR ?_ | refine jT ?_ | refine jB ?_ | refine jX rfl ?_ | refine jY rfl ?_ | refine jK ?_ | refine jD ?_ | refine jE ?_)
  refine ⟨by assumption, rfl, by simp, by simp [Value.oneCell'], ?_⟩
  repeat (first | refine jC ?_ | refine jN ?_ | refine jS ?_ | refine jR ?_ | refine jT ?_ | refine jB ?_ | refine jX rfl ?_ | refine jY rfl ?_ | refine jK ?_ | refine jD ?_ | refine jE ?_)
  refine CallV.own1 (fun g => .slice (some ⟨g, 0, none⟩) n.names.length n.names.length) (strs n.names) 9 (fun w' hw _ => toStringS_vc n.names nv w' (hN.1.ext hw) h1) (fun g1 hg1 => ?_)
  repeat (first | refine jC ?_ | refine jN ?_ | refine jS ?_ | refine jR ?_ | refine jT ?_ | refine jB ?_ | refine jX rfl ?_ | refine jY rfl ?_ | refine jK ?_ | refine jD ?_ | refine jE ?_)
  refine ⟨by assumption, rfl, by simp, by simp [Value.oneCell'], ?_⟩
  repeat (first | refine jC ?_ | refine jN ?_ | refine jS ?_ | refine jR ?_ | refine jT ?_ | refine jB ?_ | refine jX rfl ?_ | refine jY rfl ?_ | refine jK ?_ | refine jD ?_ | refine jE ?_)
  refine CallV.own1 (fun g => .slice (some ⟨g, 0, none⟩) n.kids.length n.kids.length) (ints n.kids) 3 (fun w' hw _ => toIntS_vc n.kids kv w' (hN.2.ext hw) h2) (fun g2 hg2 => ?_)
  repeat (first | refine jC ?_ | refine jN ?_ | refine jS ?_ | refine jR ?_ | refine jT ?_ | refine jB ?_ | refine jX rfl ?_ | refine jY rfl ?_ | refine jK ?_ | refine jD ?_ | refine jE ?_)
  refine ⟨by assumption, rfl, by simp, by simp [Value.oneCell'], ?_⟩
  repeat (first | refine jC ?_ | refine jN ?_ | refine jS ?_ | refine jR ?_ | refine jT ?_ | refine jB ?_ | refine jX rfl ?_ | refine jY rfl ?_ | refine jK ?_ | refine jD ?_ | refine jE ?_)
  refine ⟨by assumption, rfl, by simp, by simp [Value.oneCell'], ?_⟩
  repeat (first | refine jC ?_ | refine jN ?_ | refine jS ?_ | refine jR ?_ | refine jT ?_ | refine jB ?_ | refine jX rfl ?_ | refine jY rfl ?_ | refine jK ?_ | refine jD ?_ | refine jE ?_)
  refine EndV.own fun w' hw hO => ⟨_, rfl, ⟨g1, g2, rfl, hg1, hg2, fun e => ?_, ?_, ?_⟩, hw⟩
  · have := hO.2 3 4 _ _ rfl rfl e
    omega
  · exact hO.1 3 _ rfl
  · exact hO.1 4 _ rfl
end Go.Proofs.YtbnjjpgacemicaaGreatDoor
