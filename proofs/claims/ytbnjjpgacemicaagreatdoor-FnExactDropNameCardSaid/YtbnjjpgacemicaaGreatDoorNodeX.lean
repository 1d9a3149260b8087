/-
  Contracts: sizes, copies and comparison of slices of nodes.
  Conditions: none.
-/
import Derived.Test.YtbnjjpgacemicaaGreatDoorNodeW
namespace Go.Proofs.YtbnjjpgacemicaaGreatDoor
open Go.RowKit Vc
attribute [local irreducible] WpC WpL WpD CallV QCallV Made AppV Ld LdN Ix EndV I64 MutN Mut CellsAt

def szGoN : List Nd → Int → Int
  | [], m => m
  | n :: r, m => if szNd n m < 0 then -1 else szGoN r (szNd n m)
def szNds (ts : List Nd) (m : Int) : Int := if m < ts.length then -1 else szGoN ts (m - ts.length)
theorem szGoN_step {ts : List Nd} {k : Nat} {n : Nd} (h : ts[k]? = some n) (m : Int) : szGoN (ts.drop k) m = if szNd n m < 0 then -1 else szGoN (ts.drop (k + 1)) (szNd n m) := by
  obtain ⟨h1, rfl⟩ := List.getElem?_eq_some_iff.1 h
  rw [List.drop_eq_getElem_cons h1, szGoN]
theorem szNodeS_vc (ts : List Nd) (v : Value) (m : Int) (w : World) (hT : Tree w v ts) (hwf : ∀ n ∈ ts, n.wf) (h0 : 0 ≤ m) (h1 : m ≤ 1048576) :
    Gives Tryz.prog 9 #[v, .int .i64 m] w (.int .i64 (szNds ts m)) := by
  obtain ⟨ad, cap, rfl, hlc, hcm, hat⟩ := hT
  refine calls_of cx_ok Tryz.func9 Tryz.ntmps9 Tryz.results9 rfl rfl ?_
  repeat (first | refine jC ?_ | refine jN ?_ | refine jS ?_ | refine jR ?_ | refine jT ?_ | refine jB ?_ | refine jX rfl ?_ | refine jY rfl ?_ | refine jK ?_ | refine jD ?_ | refine jE ?_)
  refine ⟨I64.mk (by omega), ?_⟩
  repeat (first | refine jC ?_ | refine jN ?_ | refine jS ?_ | refine jR ?_ | refine jT ?_ | refine jB ?_ | refine jX rfl ?_ | refine jY rfl ?_ | refine jK ?_ | refine jD ?_ | refine jE ?_)
  refine Br.intro (fun h => ?_) (fun h => ?_)
  · repeat (first | refine jC ?_ | refine jN ?_ | refine jS ?_ | refine jR ?_ | refine jT ?_ | refine jB ?_ | refine jX rfl ?_ | refine jY rfl ?_ | refine jK ?_ | refine jD ?_ | refine jE ?_)
    refine EndV.val ?_ (Ext.refl _)
    rw [szNds, if_pos (by have := of_decide_eq_true h; omega)]
  repeat (first | refine jC ?_ | refine jN ?_ | refine jS ?_ | refine jR ?_ | refine jT ?_ | refine jB ?_ | refine jX rfl ?_ | refine jY rfl ?_ | refine jK ?_ | refine jD ?_ | refine jE ?_)
  have hn := of_decide_eq_false h
  refine WpC.loop (α := Nat × Int) (fun x => ⟨[(0, .v (.slice ad ts.length cap)), (5, .v (.int .i64 (x.1 : Int))), (1, .v (.int .i64 x.2))], [], w⟩)
    (fun x => x.1 ≤ ts.length ∧ 0 ≤ x.2 ∧ x.2 ≤ 1048576 ∧ szGoN (ts.drop x.1) x.2 = szGoN ts (m - ts.length)) (fun x => ts.length - x.1) (0, m - ts.length) ⟨by omega, by show 0 ≤ m - _; omega, by show m - _ ≤ _; omega, rfl⟩
    ⟨⟨rfl, rfl, rfl, trivial⟩, trivial, trivial, Ext.refl _⟩ ?_
  rintro ⟨k, j⟩ ⟨hk, hm0, hm1, hg⟩
  dsimp only at hk hm0 hm1 hg ⊢
  repeat (first | refine jC ?_ | refine jN ?_ | refine jS ?_ | refine jR ?_ | refine jT ?_ | refine jB ?_ | refine jX rfl ?_ | refine jY rfl ?_ | refine jK ?_ | refine jD ?_ | refine jE ?_)
  refine Br.intro (fun h => ?_) (fun h => ?_)
  · have hlt : k < ts.length := by have := of_decide_eq_true h; omega
    obtain ⟨b, o, rfl, hb, hc⟩ := hat (by omega)
    have hu : ts[k]? = some ts[k] := List.getElem?_eq_getElem hlt
    have hw := hwf _ (List.getElem_mem hlt)
    generalize ts[k] = n at hu hw
    obtain ⟨nv, kv, hcn, hN⟩ := hc k n hu
    repeat (first | refine jC ?_ | refine jN ?_ | refine jS ?_ | refine jR ?_ | refine jT ?_ | refine jB ?_ | refine jX rfl ?_ | refine jY rfl ?_ | refine jK ?_ | refine jD ?_ | refine jE ?_)
    refine Ix.mk k rfl hlt ?_
    repeat (first | refine jC ?_ | refine jN ?_ | refine jS ?_ | refine jR ?_ | refine jT ?_ | refine jB ?_ | refine jX rfl ?_ | refine jY rfl ?_ | refine jK ?_ | refine jD ?_ | refine jE ?_)
    refine LdN.mk hcn rfl ?_
    repeat (first | refine jC ?_ | refine jN ?_ | refine jS ?_ | refine jR ?_ | refine jT ?_ | refine jB ?_ | refine jX rfl ?_ | refine jY rfl ?_ | refine jK ?_ | refine jD ?_ | refine jE ?_)
    refine CallV.val (fun w' hw' _ => szNode_vc n nv kv j w' (hN.ext hw') hw hm0 hm1) ?_
    repeat (first | refine jC ?_ | refine jN ?_ | refine jS ?_ | refine jR ?_ | refine jT ?_ | refine jB ?_ | refine jX rfl ?_ | refine jY rfl ?_ | refine jK ?_ | refine jD ?_ | refine jE ?_)
    rw [szGoN_step hu] at hg
    have hle := szNd_le n j hm0
    refine Br.intro (fun h2 => ?_) (fun h2 => ?_)
    · have h2 := of_decide_eq_true h2
      rw [if_pos h2] at hg
      repeat (first | refine jC ?_ | refine jN ?_ | refine jS ?_ | refine jR ?_ | refine jT ?_ | refine jB ?_ | refine jX rfl ?_ | refine jY rfl ?_ | refine jK ?_ | refine jD ?_ | refine jE ?_)
      exact EndV.val (by rw [szNds, if_neg (by omega), ← hg]) (Ext.refl _)
    · have h2 := of_decide_eq_false h2
      rw [if_neg h2] at hg
      repeat (first | refine jC ?_ | refine jN ?_ | refine jS ?_ | refine jR ?_ | refine jT ?_ | refine jB ?_ | refine jX rfl ?_ | refine jY rfl ?_ | refine jK ?_ | refine jD ?_ | refine jE ?_)
      refine ⟨I64.mk (by omega), ?_⟩
      repeat (first | refine jC ?_ | refine jN ?_ | refine jS ?_ | refine jR ?_ | refine jT ?_ | refine jB ?_ | refine jX rfl ?_ | refine jY rfl ?_ | refine jK ?_ | refine jD ?_ | refine jE ?_)
      exact ⟨(k + 1, szNd n j), ⟨hlt, by show 0 ≤ szNd n j; omega, by show szNd n j ≤ _; omega, hg⟩, by show ts.length - (k + 1) < ts.length - k; omega, ⟨rfl, rfl, rfl, trivial⟩, trivial, trivial, Ext.refl _⟩
  · have hke : k = ts.length := by have := of_decide_eq_false h; omega
    subst hke
    rw [List.drop_length, szGoN] at hg
    repeat (first | refine jC ?_ | refine jN ?_ | refine jS ?_ | refine jR ?_ | refine jT ?_ | refine jB ?_ | refine jX rfl ?_ | refine jY rfl ?_ | refine jK ?_ | refine jD ?_ | refine jE ?_)
    exact EndV.val (by rw [szNds, if_neg (by omega), ← hg]) (Ext.refl _)
/-- What the sum of sizes bounds. -/
def Sized (ts : List Nd) : Prop := ts.length ≤ 1048576 ∧ ∀ n ∈ ts, n.names.length ≤ 8388608 ∧ n.kids.length ≤ 8388608
theorem szNd_sized {n : Nd} {m : Int} (h : 0 ≤ szNd n m) : n.names.length ≤ m ∧ n.kids.length ≤ m := by
  unfold szNd at h
  split at h
  · omega
  · simp only at h
    split at h
    · omega
    · rename_i h1 h2
      split at h
      · omega
      · have h3 := szNames_le n.names (m - n.text.size) (by omega)
        have h4 : n.names.length ≤ m - n.text.size := by
          unfold szNames at h2
          split at h2 <;> omega
        omega
theorem szGoN_sized (ts : List Nd) : ∀ m : Int, 0 ≤ m → 0 ≤ szGoN ts m → ∀ n ∈ ts, (n.names.length : Int) ≤ m ∧ (n.kids.length : Int) ≤ m := by
  induction ts with
  | nil => intro m _ _ n hn; simp at hn
  | cons x r ih =>
    intro m h0 h n hn
    simp only [szGoN] at h
    split at h
    · omega
    · rename_i h1
      have hle := szNd_le x m h0
      rcases List.mem_cons.1 hn with rfl | hn
      · exact szNd_sized (by omega)
      · have := ih (szNd x m) (by omega) h n hn
        omega
theorem szNds_sized {ts : List Nd} (h : ¬ szNds ts 1048576 < 0) : Sized ts := by
  unfold szNds at h
  split at h
  · omega
  · have := szGoN_sized ts (1048576 - ts.length) (by omega) (by omega)
    exact ⟨by omega, fun n hn => by have := this n hn; omega⟩
theorem row_of_block {w : World} {g n : Nat} {xs : List Value} {t : TypeId} (h : w.heap[g]? = some (.cells xs.toArray t (0, 0))) (hl : xs.length = n) (hn : n ≤ 8388608) : Row1 w (.slice (some ⟨g, 0, none⟩) n n) xs ∧ Wr1 w (.slice (some ⟨g, 0, none⟩) n n) n g := by
  subst hl
  refine ⟨⟨_, _, rfl, Nat.le_refl _, by omega, fun _ => ⟨g, 0, rfl, CellsAt.of_block h (fun i v hi => by rw [Nat.zero_add]; exact hi)⟩⟩, _, _, rfl, Nat.le_refl _, by omega, fun _ => ⟨0, rfl, MutN.of_block h (by simp)⟩⟩
theorem toNodeS_vc (ts : List Nd) (v : Value) (w : World) (hT : Tree w v ts) (hs : Sized ts) :
    Calls Tryz.prog 11 #[v] w fun e w' => ∃ v', e = .returned v' ∧ TreeW w.heap.size w'.heap.size w' v' ts ∧ Ext w w' := by
  obtain ⟨ad, cap, rfl, hlc, hcm, hat⟩ := hT
  have hl := hs.1
  refine calls_of cx_ok Tryz.func11 Tryz.ntmps11 Tryz.results11 rfl rfl ?_
  repeat (first | refine jC ?_ | refine jN ?_ | refine jS ?_ | refine jR ?_ | refine jT ?_ | refine jB ?_ | refine jX rfl ?_ | refine jY rfl ?_ | refine jK ?_ | refine jD ?_ | refine jE ?_)
  refine ⟨ts.length, rfl, rfl, by omega, by omega, Made.mk fun g w1 hx1 hg1 hg2 hg3 _ => ?_⟩
  repeat (first | refine jC ?_ | refine jN ?_ | refine jS ?_ | refine jR ?_ | refine jT ?_ | refine jB ?_ | refine jX rfl ?_ | refine jY rfl ?_ | refine jK ?_ | refine jD ?_ | refine jE ?_)
  refine WpC.loop (α := Nat × (Nat → Nat) × (Nat → Value) × (Nat → Value) × World) (fun x => ⟨[(0, .v (.slice ad ts.length cap)), (4, .v (.int .i64 (x.1 : Int))), (3, .v (.slice (some ⟨g, 0, none⟩) ts.length ts.length))], [], x.2.2.2.2⟩)
    (fun x => x.1 ≤ ts.length ∧ Below g w1 x.2.2.2.2 ∧ MutN x.2.2.2.2 g 0 (ts.length * 7) ∧ Pcs (g + 1) x.2.2.2.2.heap.size x.2.2.2.2 (ts.take x.1) x.2.1 x.2.2.1 x.2.2.2.1 ∧ g < x.2.2.2.2.heap.size ∧
      ∀ i n, i < x.1 → ts[i]? = some n → CellsAt x.2.2.2.2 g (i * 7) (n.cells (x.2.2.1 i) (x.2.2.2.1 i))) (fun x => ts.length - x.1) (0, fun _ => 0, fun _ => undef, fun _ => undef, w1)
    ⟨Nat.zero_le _, Below.refl _ _, MutN.of_block hg3 (by rw [size_madeCells]; omega), Pcs.nil _ _ _ _ _ _, hg2, fun i n h => absurd h (by omega)⟩ ⟨⟨rfl, rfl, rfl, trivial⟩, trivial, trivial, Ext.refl _⟩ ?_
  rintro ⟨k, blk, nf, kf, wk⟩ ⟨hk, hbk, hm, hp, hgk, hrow⟩
  dsimp only at hk hbk hm hp hgk hrow ⊢
  repeat (first | refine jC ?_ | refine jN ?_ | refine jS ?_ | refine jR ?_ | refine jT ?_ | refine jB ?_ | refine jX rfl ?_ | refine jY rfl ?_ | refine jK ?_ | refine jD ?_ | refine jE ?_)
  refine Br.intro (fun h => ?_) (fun h => ?_)
  · have hlt : k < ts.length := by have := of_decide_eq_true h; omega
    obtain ⟨b, o, rfl, hb, hc⟩ := hat (by omega)
    have hu : ts[k]? = some ts[k] := List.getElem?_eq_getElem hlt
    have hsn := hs.2 _ (List.getElem_mem hlt)
    have htk : (ts.take k).length = k := by simp; omega
    have htk1 : ts.take (k + 1) = ts.take k ++ [ts[k]] := List.take_succ_eq_append_getElem hlt
    generalize ts[k] = n at hu hsn htk1
    obtain ⟨nv, kv, hcn, hN⟩ := hc k n hu
    have hww : Below w.heap.size w wk := Below.trans hx1 (hbk.mono hg1)
    repeat (first | refine jC ?_ | refine jN ?_ | refine jS ?_ | refine jR ?_ | refine jT ?_ | refine jB ?_ | refine jX rfl ?_ | refine jY rfl ?_ | refine jK ?_ | refine jD ?_ | refine jE ?_)
    refine Ix.mk k rfl hlt ?_
    repeat (first | refine jC ?_ | refine jN ?_ | refine jS ?_ | refine jR ?_ | refine jT ?_ | refine jB ?_ | refine jX rfl ?_ | refine jY rfl ?_ | refine jK ?_ | refine jD ?_ | refine jE ?_)
    refine LdN.mk (hcn.below hww (.inr hb)) rfl ?_
    repeat (first | refine jC ?_ | refine jN ?_ | refine jS ?_ | refine jR ?_ | refine jT ?_ | refine jB ?_ | refine jX rfl ?_ | refine jY rfl ?_ | refine jK ?_ | refine jD ?_ | refine jE ?_)
    refine CallV.mem _ (fun w' hw _ => toNode_vc n nv kv w' (hN.ext (Ext.trans' hww (hw.mono hww.size))) hsn.1 hsn.2) (fun x wa wb hx2 hx3 _ ⟨g1, g2, e, q1, q2, q3, q4, q5⟩ => ?_)
    subst e
    have hxk := hx2.trans hx3
    obtain ⟨r1, r2⟩ := row_of_block q4 (by simp) hsn.1
    obtain ⟨r3, r4⟩ := row_of_block q5 (by simp) hsn.2
    have l1 : g1 < wb.heap.size := by
      rcases Nat.lt_or_ge g1 wb.heap.size with h | h
      · exact h
      · rw [Array.getElem?_eq_none h] at q4; cases q4
    have l2 : g2 < wb.heap.size := by
      rcases Nat.lt_or_ge g2 wb.heap.size with h | h
      · exact h
      · rw [Array.getElem?_eq_none h] at q5; cases q5
    have z1 := hx2.size
    have hpb := Pcs.snoc (hi' := wb.heap.size) (hp.ext hxk) (n := n) ⟨r1, r3⟩ r2 r4 (by have := hxk.size; omega) (fun _ => ⟨by omega, l1⟩) (fun _ => ⟨by omega, l2⟩) (fun _ _ => q3) (by omega)
    rw [htk, ← htk1] at hpb
    repeat (first | refine jC ?_ | refine jN ?_ | refine jS ?_ | refine jR ?_ | refine jT ?_ | refine jB ?_ | refine jX rfl ?_ | refine jY rfl ?_ | refine jK ?_ | refine jD ?_ | refine jE ?_)
    refine Ix.mk k rfl hlt ?_
    repeat (first | refine jC ?_ | refine jN ?_ | refine jS ?_ | refine jR ?_ | refine jT ?_ | refine jB ?_ | refine jX rfl ?_ | refine jY rfl ?_ | refine jK ?_ | refine jD ?_ | refine jE ?_)
    have hmb : MutN wb g 0 (ts.length * 7) := hm.ext hxk
    have hm7 : MutN wb g (0 + k * 7) 7 := hmb.sub (by omega)
    refine ⟨hm7, trivial, rfl, by simp [Value.oneCell'], ?_⟩
    repeat (first | refine jC ?_ | refine jN ?_ | refine jS ?_ | refine jR ?_ | refine jT ?_ | refine jB ?_ | refine jX rfl ?_ | refine jY rfl ?_ | refine jK ?_ | refine jD ?_ | refine jE ?_)
    refine ⟨I64.mk (by omega), ?_⟩
    repeat (first | refine jC ?_ | refine jN ?_ | refine jS ?_ | refine jR ?_ | refine jT ?_ | refine jB ?_ | refine jX rfl ?_ | refine jY rfl ?_ | refine jK ?_ | refine jD ?_ | refine jE ?_)
    refine ⟨(k + 1, _, _, _, setL wb g (0 + k * 7) (n.cells (.slice (some ⟨g1, 0, none⟩) n.names.length n.names.length) (.slice (some ⟨g2, 0, none⟩) n.kids.length n.kids.length))), ⟨hlt, ?_, MutN.setL _ _ _ hmb, hpb.agree ?_ |>.mono (Nat.le_refl _) (by rw [setL_size]; exact Nat.le_refl _), by rw [setL_size]; have := hxk.size; omega, fun i m hi hm' => ?_⟩, by show ts.length - (k + 1) < ts.length - k; omega, ⟨rfl, rfl, rfl, trivial⟩, trivial, trivial, Ext.refl _⟩
    · exact below_setL (hbk.trans (hxk.mono (by omega))) (Nat.le_refl _) _ _
    · intro j h1 h2
      exact setL_other _ _ (by omega) _ _
    · show CellsAt (setL wb g (0 + k * 7) _) g (i * 7) (m.cells (upd nf k _ i) (upd kf k _ i))
      unfold upd
      by_cases hik : i = k
      · subst hik
        rw [hu] at hm'
        cases hm'
        rw [if_pos rfl, if_pos rfl, Nat.zero_add]
        refine CellsAt.setL_in ?_
        rw [Nat.zero_add] at hm7
        exact hm7
      · rw [if_neg hik, if_neg hik]
        exact ((hrow i m (by omega) hm').ext hxk).setL_out (.inr (.inl (by show i * 7 + 7 ≤ 0 + k * 7; omega)))
  · have hke : k = ts.length := by have := of_decide_eq_false h; omega
    subst hke
    rw [List.take_length] at hp
    repeat (first | refine jC ?_ | refine jN ?_ | refine jS ?_ | refine jR ?_ | refine jT ?_ | refine jB ?_ | refine jX rfl ?_ | refine jY rfl ?_ | refine jK ?_ | refine jD ?_ | refine jE ?_)
    refine EndV.mk fun w' hw' => ⟨_, rfl, ⟨_, _, g, blk, nf, kf, rfl, Nat.le_refl _, by omega, (hp.ext hw').mono (by omega) hw'.size, fun h0 => ⟨hg1, by have := hw'.size; omega, 0, rfl, hm.ext hw', fun i n hi => ?_⟩, fun p hp' => ?_⟩, (hx1.trans' (hbk.mono hg1)).trans hw'⟩
    · rw [Nat.zero_add]
      exact (hrow i n (List.getElem?_eq_some_iff.1 hi).1 hi).ext hw'
    · have := hp.rng p hp'; omega
theorem eqStringS_vc (xs ys : List ByteArray) (v v' : Value) (w : World) (hU : Row1 w v (strs xs)) (hV : Row1 w v' (strs ys)) (h : xs = ys) :
    Gives Tryz.prog 83 #[v, v'] w (.bool true) := by
  subst h
  obtain ⟨ad, cap, rfl, hlc, hcm, hat⟩ := hU
  obtain ⟨ad', cap', rfl, hlc', hcm', hat'⟩ := hV
  have hlen : (strs xs).length = xs.length := by simp
  rw [hlen] at hlc hat hlc' hat' ⊢
  refine calls_of cx_ok Tryz.func83 Tryz.ntmps83 Tryz.results83 rfl rfl ?_
  repeat (first | refine jC ?_ | refine jN ?_ | refine jS ?_ | refine jR ?_ | refine jT ?_ | refine jB ?_ | refine jX rfl ?_ | refine jY rfl ?_ | refine jK ?_ | refine jD ?_ | refine jE ?_)
  refine Br.no (by simp) ?_
  repeat (first | refine jC ?_ | refine jN ?_ | refine jS ?_ | refine jR ?_ | refine jT ?_ | refine jB ?_ | refine jX rfl ?_ | refine jY rfl ?_ | refine jK ?_ | refine jD ?_ | refine jE ?_)
  refine WpC.loop (α := Nat) (fun x => ⟨[(0, .v (.slice ad xs.length cap)), (1, .v (.slice ad' xs.length cap')), (5, .v (.int .i64 (x : Int)))], [], w⟩)
    (fun x => x ≤ xs.length) (fun x => xs.length - x) 0 (Nat.zero_le _) ⟨⟨rfl, rfl, rfl, trivial⟩, trivial, trivial, Ext.refl _⟩ ?_
  intro k hk
  repeat (first | refine jC ?_ | refine jN ?_ | refine jS ?_ | refine jR ?_ | refine jT ?_ | refine jB ?_ | refine jX rfl ?_ | refine jY rfl ?_ | refine jK ?_ | refine jD ?_ | refine jE ?_)
  refine Br.intro (fun h => ?_) (fun h => ?_)
  · have hlt : k < xs.length := by have := of_decide_eq_true h; omega
    obtain ⟨b, o, rfl, hc⟩ := hat (by omega)
    obtain ⟨b', o', rfl, hc'⟩ := hat' (by omega)
    have hu : (strs xs)[k]? = some (.string xs[k]) := by simp [hlt]
    repeat (first | refine jC ?_ | refine jN ?_ | refine jS ?_ | refine jR ?_ | refine jT ?_ | refine jB ?_ | refine jX rfl ?_ | refine jY rfl ?_ | refine jK ?_ | refine jD ?_ | refine jE ?_)
    refine WpC.draw (by kernel_rfl) ?_
    repeat (first | refine jC ?_ | refine jN ?_ | refine jS ?_ | refine jR ?_ | refine jT ?_ | refine jB ?_ | refine jX rfl ?_ | refine jY rfl ?_ | refine jK ?_ | refine jD ?_ | refine jE ?_)
    refine Ix.mk k rfl hlt ?_
    repeat (first | refine jC ?_ | refine jN ?_ | refine jS ?_ | refine jR ?_ | refine jT ?_ | refine jB ?_ | refine jX rfl ?_ | refine jY rfl ?_ | refine jK ?_ | refine jD ?_ | refine jE ?_)
    refine Ld.mk (hc.out k _ hu) ?_
    repeat (first | refine jC ?_ | refine jN ?_ | refine jS ?_ | refine jR ?_ | refine jT ?_ | refine jB ?_ | refine jX rfl ?_ | refine jY rfl ?_ | refine jK ?_ | refine jD ?_ | refine jE ?_)
    refine Ix.mk k rfl hlt ?_
    repeat (first | refine jC ?_ | refine jN ?_ | refine jS ?_ | refine jR ?_ | refine jT ?_ | refine jB ?_ | refine jX rfl ?_ | refine jY rfl ?_ | refine jK ?_ | refine jD ?_ | refine jE ?_)
    refine Ld.mk (hc'.out k _ hu) ?_
    repeat (first | refine jC ?_ | refine jN ?_ | refine jS ?_ | refine jR ?_ | refine jT ?_ | refine jB ?_ | refine jX rfl ?_ | refine jY rfl ?_ | refine jK ?_ | refine jD ?_ | refine jE ?_)
    refine Br.no (by simp) ?_
    repeat (first | refine jC ?_ | refine jN ?_ | refine jS ?_ | refine jR ?_ | refine jT ?_ | refine jB ?_ | refine jX rfl ?_ | refine jY rfl ?_ | refine jK ?_ | refine jD ?_ | refine jE ?_)
    refine ⟨I64.mk (by omega), ?_⟩
    repeat (first | refine jC ?_ | refine jN ?_ | refine jS ?_ | refine jR ?_ | refine jT ?_ | refine jB ?_ | refine jX rfl ?_ | refine jY rfl ?_ | refine jK ?_ | refine jD ?_ | refine jE ?_)
    exact ⟨k + 1, hlt, by show xs.length - (k + 1) < xs.length - k; omega, ⟨rfl, rfl, rfl, trivial⟩, trivial, trivial, Ext.refl _⟩
  · repeat (first | refine jC ?_ | refine jN ?_ | refine jS ?_ | refine jR ?_ | refine jT ?_ | refine jB ?_ | refine jX rfl ?_ | refine jY rfl ?_ | refine jK ?_ | refine jD ?_ | refine jE ?_)
    exact EndV.val rfl (Ext.refl _)
theorem eqNode_vc (n : Nd) (nv kv nv' kv' : Value) (w : World) (hN : NdIn w n nv kv) (hN' : NdIn w n nv' kv') :
    Gives Tryz.prog 39 #[n.val nv kv, n.val nv' kv'] w (.bool true) := by
  refine calls_of cx_ok Tryz.func39 Tryz.ntmps39 Tryz.results39 rfl rfl ?_
  repeat (first | refine jC ?_ | refine jN ?_ | refine jS ?_ | refine jR ?_ | refine jT ?_ | refine jB ?_ | refine jX rfl ?_ | refine jY rfl ?_ | refine jK ?_ | refine jD ?_ | refine jE ?_)
  intro b hb
  repeat (first | refine jC ?_ | refine jN ?_ | refine jS ?_ | refine jR ?_ | refine jT ?_ | refine jB ?_ | refine jX rfl ?_ | refine jY rfl ?_ | refine jK ?_ | refine jD ?_ | refine jE ?_)
  intro b2 hb2
  repeat (first | refine jC ?_ | refine jN ?_ | refine jS ?_ | refine jR ?_ | refine jT ?_ | refine jB ?_ | refine jX rfl ?_ | refine jY rfl ?_ | refine jK ?_ | refine jD ?_ | refine jE ?_)
  refine Br.no (by simp) ?_
  repeat (first | refine jC ?_ | refine jN ?_ | refine jS ?_ | refine jR ?_ | refine jT ?_ | refine jB ?_ | refine jX rfl ?_ | refine jY rfl ?_ | refine jK ?_ | refine jD ?_ | refine jE ?_)
  refine Br.no (by simp) ?_
  repeat (first | refine jC ?_ | refine jN ?_ | refine jS ?_ | refine jR ?_ | refine jT ?_ | refine jB ?_ | refine jX rfl ?_ | refine jY rfl ?_ | refine jK ?_ | refine jD ?_ | refine jE ?_)
  refine Br.no (by simp) ?_
  repeat (first | refine jC ?_ | refine jN ?_ | refine jS ?_ | refine jR ?_ | refine jT ?_ | refine jB ?_ | refine jX rfl ?_ | refine jY rfl ?_ | refine jK ?_ | refine jD ?_ | refine jE ?_)
  refine Br.no (by simp) ?_
  repeat (first | refine jC ?_ | refine jN ?_ | refine jS ?_ | refine jR ?_ | refine jT ?_ | refine jB ?_ | refine jX rfl ?_ | refine jY rfl ?_ | refine jK ?_ | refine jD ?_ | refine jE ?_)
  refine Br.no (by simp) ?_
  repeat (first | refine jC ?_ | refine jN ?_ | refine jS ?_ | refine jR ?_ | refine jT ?_ | refine jB ?_ | refine jX rfl ?_ | refine jY rfl ?_ | refine jK ?_ | refine jD ?_ | refine jE ?_)
  refine CallV.val (fun w' hw _ => eqStringS_vc _ _ _ _ w' (hN.1.ext hw) (hN'.1.ext hw) rfl) ?_
  repeat (first | refine jC ?_ | refine jN ?_ | refine jS ?_ | refine jR ?_ | refine jT ?_ | refine jB ?_ | refine jX rfl ?_ | refine jY rfl ?_ | refine jK ?_ | refine jD ?_ | refine jE ?_)
  refine CallV.val (fun w' hw _ => eqIntS_vc _ _ _ _ w' (hN.2.ext hw) (hN'.2.ext hw) rfl) ?_
  repeat (first | refine jC ?_ | refine jN ?_ | refine jS ?_ | refine jR ?_ | refine jT ?_ | refine jB ?_ | refine jX rfl ?_ | refine jY rfl ?_ | refine jK ?_ | refine jD ?_ | refine jE ?_)
  exact EndV.val rfl (Ext.refl _)
theorem eqNodeS_vc (ts ts' : List Nd) (v v' : Value) (w : World) (hT : Tree w v ts) (hT' : Tree w v' ts') (h : ts = ts') :
    Gives Tryz.prog 14 #[v, v'] w (.bool true) := by
  subst h
  obtain ⟨ad, cap, rfl, hlc, hcm, hat⟩ := hT
  obtain ⟨ad', cap', rfl, hlc', hcm', hat'⟩ := hT'
  refine calls_of cx_ok Tryz.func14 Tryz.ntmps14 Tryz.results14 rfl rfl ?_
  repeat (first | refine jC ?_ | refine jN ?_ | refine jS ?_ | refine jR ?_ | refine jT ?_ | refine jB ?_ | refine jX rfl ?_ | refine jY rfl ?_ | refine jK ?_ | refine jD ?_ | refine jE ?_)
  refine Br.no (by simp) ?_
  repeat (first | refine jC ?_ | refine jN ?_ | refine jS ?_ | refine jR ?_ | refine jT ?_ | refine jB ?_ | refine jX rfl ?_ | refine jY rfl ?_ | refine jK ?_ | refine jD ?_ | refine jE ?_)
  refine WpC.loop (α := Nat) (fun x => ⟨[(0, .v (.slice ad ts.length cap)), (1, .v (.slice ad' ts.length cap')), (5, .v (.int .i64 (x : Int)))], [], w⟩)
    (fun x => x ≤ ts.length) (fun x => ts.length - x) 0 (Nat.zero_le _) ⟨⟨rfl, rfl, rfl, trivial⟩, trivial, trivial, Ext.refl _⟩ ?_
  intro k hk
  repeat (first | refine jC ?_ | refine jN ?_ | refine jS ?_ | refine jR ?_ | refine jT ?_ | refine jB ?_ | refine jX rfl ?_ | refine jY rfl ?_ | refine jK ?_ | refine jD ?_ | refine jE ?_)
  refine Br.intro (fun h => ?_) (fun h => ?_)
  · have hlt : k < ts.length := by have := of_decide_eq_true h; omega
    obtain ⟨b, o, rfl, hb, hc⟩ := hat (by omega)
    obtain ⟨b', o', rfl, hb', hc'⟩ := hat' (by omega)
    have hu : ts[k]? = some ts[k] := List.getElem?_eq_getElem hlt
    generalize ts[k] = n at hu
    obtain ⟨nv, kv, hcn, hN⟩ := hc k n hu
    obtain ⟨nv', kv', hcn', hN'⟩ := hc' k n hu
    repeat (first | refine jC ?_ | refine jN ?_ | refine jS ?_ | refine jR ?_ | refine jT ?_ | refine jB ?_ | refine jX rfl ?_ | refine jY rfl ?_ | refine jK ?_ | refine jD ?_ | refine jE ?_)
    refine WpC.draw (by kernel_rfl) ?_
    repeat (first | refine jC ?_ | refine jN ?_ | refine jS ?_ | refine jR ?_ | refine jT ?_ | refine jB ?_ | refine jX rfl ?_ | refine jY rfl ?_ | refine jK ?_ | refine jD ?_ | refine jE ?_)
    refine Ix.mk k rfl hlt ?_
    repeat (first | refine jC ?_ | refine jN ?_ | refine jS ?_ | refine jR ?_ | refine jT ?_ | refine jB ?_ | refine jX rfl ?_ | refine jY rfl ?_ | refine jK ?_ | refine jD ?_ | refine jE ?_)
    refine LdN.mk hcn rfl ?_
    repeat (first | refine jC ?_ | refine jN ?_ | refine jS ?_ | refine jR ?_ | refine jT ?_ | refine jB ?_ | refine jX rfl ?_ | refine jY rfl ?_ | refine jK ?_ | refine jD ?_ | refine jE ?_)
    refine Ix.mk k rfl hlt ?_
    repeat (first | refine jC ?_ | refine jN ?_ | refine jS ?_ | refine jR ?_ | refine jT ?_ | refine jB ?_ | refine jX rfl ?_ | refine jY rfl ?_ | refine jK ?_ | refine jD ?_ | refine jE ?_)
    refine LdN.mk hcn' rfl ?_
    repeat (first | refine jC ?_ | refine jN ?_ | refine jS ?_ | refine jR ?_ | refine jT ?_ | refine jB ?_ | refine jX rfl ?_ | refine jY rfl ?_ | refine jK ?_ | refine jD ?_ | refine jE ?_)
    refine QCallV.val (fun w' hw _ => eqNode_vc n nv kv nv' kv' w' (hN.ext hw) (hN'.ext hw)) ?_
    repeat (first | refine jC ?_ | refine jN ?_ | refine jS ?_ | refine jR ?_ | refine jT ?_ | refine jB ?_ | refine jX rfl ?_ | refine jY rfl ?_ | refine jK ?_ | refine jD ?_ | refine jE ?_)
    refine ⟨I64.mk (by omega), ?_⟩
    repeat (first | refine jC ?_ | refine jN ?_ | refine jS ?_ | refine jR ?_ | refine jT ?_ | refine jB ?_ | refine jX rfl ?_ | refine jY rfl ?_ | refine jK ?_ | refine jD ?_ | refine jE ?_)
    exact ⟨k + 1, hlt, by show ts.length - (k + 1) < ts.length - k; omega, ⟨rfl, rfl, rfl, trivial⟩, trivial, trivial, Ext.refl _⟩
  · repeat (first | refine jC ?_ | refine jN ?_ | refine jS ?_ | refine jR ?_ | refine jT ?_ | refine jB ?_ | refine jX rfl ?_ | refine jY rfl ?_ | refine jK ?_ | refine jD ?_ | refine jE ?_)
    exact EndV.val rfl (Ext.refl _)
end Go.Proofs.YtbnjjpgacemicaaGreatDoor
