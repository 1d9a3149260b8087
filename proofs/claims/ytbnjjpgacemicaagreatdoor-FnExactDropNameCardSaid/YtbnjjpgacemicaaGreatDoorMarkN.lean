/-
  Contracts: marks in texts and in nodes.
  Conditions: none but bounds.
-/
import Derived.Test.YtbnjjpgacemicaaGreatDoorNodeX
import Derived.Test.YtbnjjpgacemicaaGreatDoorExcP
namespace Go.Proofs.YtbnjjpgacemicaaGreatDoor
open Go.RowKit Vc
attribute [local irreducible] WpC WpL WpD CallV QCallV Made AppV Ld LdN Ix EndV I64 MutN Mut CellsAt

/-- Where nothing is written, no block counts. -/
theorem Wr1.none {w : World} {v : Value} {g : Nat} (h : Wr1 w v 0 g) (g' : Nat) : Wr1 w v 0 g' := by
  obtain ⟨ad, cap, e, h1, h2, _⟩ := h
  exact ⟨ad, cap, e, h1, h2, fun h0 => absurd h0 (by omega)⟩

def mkS (k : Int) (n : Nat) : List ByteArray := (List.range n).map fun (i : Nat) => markT (k + (i : Int))
def mkI (k : Int) (n : Nat) : List Int := (List.range n).map fun (i : Nat) => k + (i : Int)
@[simp] theorem mkS_length (k : Int) (n : Nat) : (mkS k n).length = n := by simp [mkS]
@[simp] theorem mkI_length (k : Int) (n : Nat) : (mkI k n).length = n := by simp [mkI]
theorem ints_mkI (k : Int) (n : Nat) : ints (mkI k n) = upI k n := by simp [mkI, upI]
theorem mkS_get {k : Int} {n i : Nat} (h : i < n) : (strs (mkS k n))[i]? = some (.string (markT (k + (i : Int)))) := by simp [mkS, h]

theorem markStringS_vc (v : Value) (n g : Nat) (k : Int) (w : World) (hw : Wr1 w v n g) (h0 : 0 ≤ k) (h1 : k + n ≤ 17592186044416) :
    Calls Tryz.prog 41 #[v, .int .i64 k] w fun e w' => e = .returned (.int .i64 (k + n)) ∧ Exc g w w' ∧ Row1 w' v (strs (mkS k n)) ∧ Wr1 w' v n g := by
  obtain ⟨ad, cap, rfl, hlc, hcm, hat⟩ := hw
  refine calls_of cx_ok Tryz.func41 Tryz.ntmps41 Tryz.results41 rfl rfl ?_
  repeat (first | refine jC ?_ | refine jN ?_ | refine jS ?_ | refine jR ?_ | refine jT ?_ | refine jB ?_ | refine jX rfl ?_ | refine jY rfl ?_ | refine jK ?_ | refine jD ?_ | refine jE ?_)
  refine WpC.loop (α := Nat × World) (fun x => ⟨[(0, .v (.slice ad n cap)), (1, .v (.int .i64 (k + x.1))), (5, .v (.int .i64 (x.1 : Int)))], [], x.2⟩)
    (fun x => x.1 ≤ n ∧ Exc g w x.2 ∧ ∀ o, ad = some ⟨g, o, none⟩ → 0 < n → MutN x.2 g o n ∧ CellsAt x.2 g o (strs (mkS k x.1))) (fun x => n - x.1) (0, w)
    ⟨Nat.zero_le _, Exc.refl _ _, fun o e h0 => by obtain ⟨o', e', hm⟩ := hat h0; rw [e] at e'; cases e'; exact ⟨hm, CellsAt.nil⟩⟩ ⟨⟨rfl, by show some _ = some _; simp, rfl, trivial⟩, trivial, trivial, Ext.refl _⟩ ?_
  rintro ⟨i, wi⟩ ⟨hi, hx, hc⟩
  dsimp only at hi hx hc
  repeat (first | refine jC ?_ | refine jN ?_ | refine jS ?_ | refine jR ?_ | refine jT ?_ | refine jB ?_ | refine jX rfl ?_ | refine jY rfl ?_ | refine jK ?_ | refine jD ?_ | refine jE ?_)
  refine Br.intro (fun h => ?_) (fun h => ?_)
  · have hlt : i < n := by have := of_decide_eq_true h; omega
    obtain ⟨o, rfl, _⟩ := hat (by omega)
    obtain ⟨hm, hci⟩ := hc o rfl (by omega)
    repeat (first | refine jC ?_ | refine jN ?_ | refine jS ?_ | refine jR ?_ | refine jT ?_ | refine jB ?_ | refine jX rfl ?_ | refine jY rfl ?_ | refine jK ?_ | refine jD ?_ | refine jE ?_)
    refine CallV.val (fun w' _ _ => markText_vc (k + (i : Int)) w' (by omega)) ?_
    repeat (first | refine jC ?_ | refine jN ?_ | refine jS ?_ | refine jR ?_ | refine jT ?_ | refine jB ?_ | refine jX rfl ?_ | refine jY rfl ?_ | refine jK ?_ | refine jD ?_ | refine jE ?_)
    refine Ix.mk i rfl hlt ?_
    repeat (first | refine jC ?_ | refine jN ?_ | refine jS ?_ | refine jR ?_ | refine jT ?_ | refine jB ?_ | refine jX rfl ?_ | refine jY rfl ?_ | refine jK ?_ | refine jD ?_ | refine jE ?_)
    have hm1 : MutN wi g (o + i) 1 := hm.sub (by omega)
    refine ⟨hm1, trivial, rfl, by simp [Value.oneCell'], ?_⟩
    repeat (first | refine jC ?_ | refine jN ?_ | refine jS ?_ | refine jR ?_ | refine jT ?_ | refine jB ?_ | refine jX rfl ?_ | refine jY rfl ?_ | refine jK ?_ | refine jD ?_ | refine jE ?_)
    refine ⟨I64.mk (by omega), ?_⟩
    repeat (first | refine jC ?_ | refine jN ?_ | refine jS ?_ | refine jR ?_ | refine jT ?_ | refine jB ?_ | refine jX rfl ?_ | refine jY rfl ?_ | refine jK ?_ | refine jD ?_ | refine jE ?_)
    refine ⟨I64.mk (by omega), ?_⟩
    repeat (first | refine jC ?_ | refine jN ?_ | refine jS ?_ | refine jR ?_ | refine jT ?_ | refine jB ?_ | refine jX rfl ?_ | refine jY rfl ?_ | refine jK ?_ | refine jD ?_ | refine jE ?_)
    refine ⟨(i + 1, setL wi g (o + i) [.string (markT (k + (i : Int)))]), ⟨hlt, hx.setL _ _, fun o' e _ => ?_⟩, by show n - (i + 1) < n - i; omega, ⟨rfl, by show some _ = some _; rw [show k + (i : Int) + 1 = k + ((i + 1 : Nat) : Int) by omega], rfl, trivial⟩, trivial, trivial, Ext.refl _⟩
    cases e
    refine ⟨MutN.setL _ _ _ hm, ?_⟩
    rw [show strs (mkS k (i + 1)) = strs (mkS k i) ++ [.string (markT (k + (i : Int)))] by simp [mkS, List.range_succ]]
    refine CellsAt.append (hci.setL_out (.inr (.inl (by simp [mkS])))) ?_
    rw [show (strs (mkS k i)).length = i by simp]
    exact CellsAt.setL_in hm1
  · have hie : i = n := by have := of_decide_eq_false h; omega
    subst hie
    repeat (first | refine jC ?_ | refine jN ?_ | refine jS ?_ | refine jR ?_ | refine jT ?_ | refine jB ?_ | refine jX rfl ?_ | refine jY rfl ?_ | refine jK ?_ | refine jD ?_ | refine jE ?_)
    refine EndV.mk fun w' hw' => ⟨rfl, hx.trans (Exc.of_ext hw'), Row1.ext ⟨ad, cap, by simp, by simp [hlc], hcm, fun h0 => ?_⟩ hw', ad, cap, rfl, hlc, hcm, fun h0 => ?_⟩
    · obtain ⟨o, e, _⟩ := hat (by simpa using h0)
      exact ⟨g, o, e, (hc o e (by simpa using h0)).2⟩
    · obtain ⟨o, e, _⟩ := hat h0
      exact ⟨o, e, (hc o e h0).1.ext hw'⟩
theorem heldStringS_vc (v : Value) (n : Nat) (k : Int) (w : World) (hr : Row1 w v (strs (mkS k n))) (h0 : 0 ≤ k) (h1 : k + n ≤ 17592186044416) :
    Gives Tryz.prog 43 #[v, .int .i64 k] w (.int .i64 (k + n)) := by
  obtain ⟨ad, cap, rfl, hlc, hcm, hat⟩ := hr
  have hlen : (strs (mkS k n)).length = n := by simp
  rw [hlen] at hlc hat ⊢
  refine calls_of cx_ok Tryz.func43 Tryz.ntmps43 Tryz.results43 rfl rfl ?_
  repeat (first | refine jC ?_ | refine jN ?_ | refine jS ?_ | refine jR ?_ | refine jT ?_ | refine jB ?_ | refine jX rfl ?_ | refine jY rfl ?_ | refine jK ?_ | refine jD ?_ | refine jE ?_)
  refine WpC.loop (α := Nat) (fun x => ⟨[(0, .v (.slice ad n cap)), (1, .v (.int .i64 (k + x))), (5, .v (.int .i64 (x : Int)))], [], w⟩)
    (fun x => x ≤ n) (fun x => n - x) 0 (Nat.zero_le _) ⟨⟨rfl, by show some _ = some _; simp, rfl, trivial⟩, trivial, trivial, Ext.refl _⟩ ?_
  intro i hi
  repeat (first | refine jC ?_ | refine jN ?_ | refine jS ?_ | refine jR ?_ | refine jT ?_ | refine jB ?_ | refine jX rfl ?_ | refine jY rfl ?_ | refine jK ?_ | refine jD ?_ | refine jE ?_)
  refine Br.intro (fun h => ?_) (fun h => ?_)
  · have hlt : i < n := by have := of_decide_eq_true h; omega
    obtain ⟨b, o, rfl, hc⟩ := hat (by omega)
    repeat (first | refine jC ?_ | refine jN ?_ | refine jS ?_ | refine jR ?_ | refine jT ?_ | refine jB ?_ | refine jX rfl ?_ | refine jY rfl ?_ | refine jK ?_ | refine jD ?_ | refine jE ?_)
    refine WpC.draw (by kernel_rfl) ?_
    repeat (first | refine jC ?_ | refine jN ?_ | refine jS ?_ | refine jR ?_ | refine jT ?_ | refine jB ?_ | refine jX rfl ?_ | refine jY rfl ?_ | refine jK ?_ | refine jD ?_ | refine jE ?_)
    refine Ix.mk i rfl hlt ?_
    repeat (first | refine jC ?_ | refine jN ?_ | refine jS ?_ | refine jR ?_ | refine jT ?_ | refine jB ?_ | refine jX rfl ?_ | refine jY rfl ?_ | refine jK ?_ | refine jD ?_ | refine jE ?_)
    refine Ld.mk (hc.out i _ (mkS_get hlt)) ?_
    repeat (first | refine jC ?_ | refine jN ?_ | refine jS ?_ | refine jR ?_ | refine jT ?_ | refine jB ?_ | refine jX rfl ?_ | refine jY rfl ?_ | refine jK ?_ | refine jD ?_ | refine jE ?_)
    refine QCallV.val (fun w' _ _ => markText_vc (k + (i : Int)) w' (by omega)) ?_
    repeat (first | refine jC ?_ | refine jN ?_ | refine jS ?_ | refine jR ?_ | refine jT ?_ | refine jB ?_ | refine jX rfl ?_ | refine jY rfl ?_ | refine jK ?_ | refine jD ?_ | refine jE ?_)
    refine Br.no (by simp) ?_
    repeat (first | refine jC ?_ | refine jN ?_ | refine jS ?_ | refine jR ?_ | refine jT ?_ | refine jB ?_ | refine jX rfl ?_ | refine jY rfl ?_ | refine jK ?_ | refine jD ?_ | refine jE ?_)
    refine ⟨I64.mk (by omega), ?_⟩
    repeat (first | refine jC ?_ | refine jN ?_ | refine jS ?_ | refine jR ?_ | refine jT ?_ | refine jB ?_ | refine jX rfl ?_ | refine jY rfl ?_ | refine jK ?_ | refine jD ?_ | refine jE ?_)
    refine ⟨I64.mk (by omega), ?_⟩
    repeat (first | refine jC ?_ | refine jN ?_ | refine jS ?_ | refine jR ?_ | refine jT ?_ | refine jB ?_ | refine jX rfl ?_ | refine jY rfl ?_ | refine jK ?_ | refine jD ?_ | refine jE ?_)
    exact ⟨i + 1, hlt, by show n - (i + 1) < n - i; omega, ⟨rfl, by show some _ = some _; rw [show k + (i : Int) + 1 = k + ((i + 1 : Nat) : Int) by omega], rfl, trivial⟩, trivial, trivial, Ext.refl _⟩
  · have hie : i = n := by have := of_decide_eq_false h; omega
    subst hie
    repeat (first | refine jC ?_ | refine jN ?_ | refine jS ?_ | refine jR ?_ | refine jT ?_ | refine jB ?_ | refine jX rfl ?_ | refine jY rfl ?_ | refine jK ?_ | refine jD ?_ | refine jE ?_)
    exact EndV.val rfl (Ext.refl _)

theorem Wr1.lt {w : World} {v : Value} {n g : Nat} (h : Wr1 w v n g) (h0 : 0 < n) : g < w.heap.size := by
  obtain ⟨ad, cap, rfl, _, _, h4⟩ := h
  obtain ⟨o, _, hm⟩ := h4 h0
  rcases hm.lt (l := List.replicate n undef) (by simp) with h | h
  · simp at h; omega
  · exact h
theorem Wr1.exc {S : Nat → Prop} {w w' : World} {v : Value} {n g : Nat} (h : Wr1 w v n g) (hX : ExcP S w w') (hS : 0 < n → ¬ S g) : Wr1 w' v n g := by
  rcases Nat.eq_zero_or_pos n with rfl | h0
  · obtain ⟨ad, cap, e, h1, h2, _⟩ := h
    exact ⟨ad, cap, e, h1, h2, fun h0 => absurd h0 (by omega)⟩
  · have := h.lt h0
    exact h.agree (lo := g) (hi := g + 1) (hX.agree (by omega) fun j h1 h2 => by rw [show j = g by omega]; exact hS h0) (fun _ => by omega)
theorem row1_exc {S : Nat → Prop} {w w' : World} {v : Value} {xs : List Value} {n g : Nat} (hR : Row1 w v xs) (hl : xs.length = n) (h : Wr1 w v n g) (hX : ExcP S w w') (hS : 0 < n → ¬ S g) : Row1 w' v xs := by
  rcases Nat.eq_zero_or_pos n with rfl | h0
  · obtain ⟨ad, cap, e, h1, h2, _⟩ := hR
    exact ⟨ad, cap, e, h1, h2, fun h0 => absurd h0 (by omega)⟩
  · have := h.lt h0
    exact hR.agree (lo := g) (hi := g + 1) (h.inB fun _ => by omega) (hX.agree (by omega) fun j h1 h2 => by rw [show j = g by omega]; exact hS h0)
theorem Pcs.exc {S : Nat → Prop} {lo hi : Nat} {w w' : World} {ts : List Nd} {blk : Nat → Nat} {nv kv : Nat → Value} (h : Pcs lo hi w ts blk nv kv) (hX : ExcP S w w') (hS : ∀ p, 0 < cnt ts p → ¬ S (blk p)) : Pcs lo hi w' ts blk nv kv := by
  refine ⟨fun i n hi' => ?_, h.rng, h.ne⟩
  obtain ⟨⟨h1, h2⟩, h3, h4⟩ := h.nd i n hi'
  have s1 := hS (2 * i)
  have s2 := hS (2 * i + 1)
  rw [cnt_names hi'] at s1
  rw [cnt_kids hi'] at s2
  exact ⟨⟨row1_exc h1 (by simp) h3 hX s1, row1_exc h2 (by simp) h4 hX s2⟩, h3.exc hX s1, h4.exc hX s2⟩
theorem cnt_set {ts : List Nd} {i : Nat} {n n' : Nd} (hi : ts[i]? = some n) (h1 : n'.names.length = n.names.length) (h2 : n'.kids.length = n.kids.length) (p : Nat) : cnt (ts.set i n') p = cnt ts p := by
  unfold cnt
  rw [List.getElem?_set]
  by_cases h : i = p / 2
  · subst h
    have hlt := (List.getElem?_eq_some_iff.1 hi).1
    rw [if_pos rfl, if_pos hlt, hi]
    simp [h1, h2]
  · rw [if_neg h]
/-- One node turns. -/
theorem Pcs.set {S : Nat → Prop} {lo hi : Nat} {w w' : World} {ts : List Nd} {blk : Nat → Nat} {nv kv : Nat → Value} (h : Pcs lo hi w ts blk nv kv) {i : Nat} {n n' : Nd} (hi' : ts[i]? = some n) (h1 : n'.names.length = n.names.length) (h2 : n'.kids.length = n.kids.length)
    (hX : ExcP S w w') (hS : ∀ p, 0 < cnt ts p → p / 2 ≠ i → ¬ S (blk p)) (hN : NdIn w' n' (nv i) (kv i)) (hW1 : Wr1 w' (nv i) n'.names.length (blk (2 * i))) (hW2 : Wr1 w' (kv i) n'.kids.length (blk (2 * i + 1))) : Pcs lo hi w' (ts.set i n') blk nv kv := by
  refine ⟨fun j m hj => ?_, fun p hp => h.rng p (by rwa [cnt_set hi' h1 h2] at hp), fun p q hpq hp hq => h.ne p q hpq (by rwa [cnt_set hi' h1 h2] at hp) (by rwa [cnt_set hi' h1 h2] at hq)⟩
  rw [List.getElem?_set] at hj
  by_cases hij : i = j
  · subst hij
    rw [if_pos rfl, if_pos (List.getElem?_eq_some_iff.1 hi').1] at hj
    cases hj
    exact ⟨hN, hW1, hW2⟩
  · rw [if_neg hij] at hj
    obtain ⟨⟨r1, r2⟩, h3, h4⟩ := h.nd j m hj
    have s1 := hS (2 * j)
    have s2 := hS (2 * j + 1)
    rw [cnt_names hj] at s1
    rw [cnt_kids hj] at s2
    exact ⟨⟨row1_exc r1 (by simp) h3 hX fun h0 => s1 h0 (by omega), row1_exc r2 (by simp) h4 hX fun h0 => s2 h0 (by omega)⟩, h3.exc hX fun h0 => s1 h0 (by omega), h4.exc hX fun h0 => s2 h0 (by omega)⟩
/-- One cell is set. -/
theorem Vc.CellsAt.setAt {w : World} {b o c : Nat} {l : List Value} {x : Value} (h : CellsAt w b o l) (hm : MutN w b (o + c) 1) (hk : c < l.length) : CellsAt (setL w b (o + c) [x]) b o (l.set c x) := by
  refine CellsAt.mk fun i v hi => ?_
  rw [List.getElem?_set] at hi
  split at hi
  · rename_i hik
    subst hik
    try rw [if_pos hk] at hi
    cases hi
    exact (CellsAt.setL_in (l := [x]) hm).out 0 x rfl
  · rename_i hik
    rw [Go.Proofs.YtbnjjpgacemicaaGreatDoor.Vc.setL_out _ _ _ (by simp; omega)]
    exact h.out i v hi

/-- A node that is marked. -/
def Nd.mark (n : Nd) (k : Int) : Nd := ⟨decide (k % 3 = 0), k + 1, k + 1 + 1, k + 1 + 1 + 1, markT (k + 1 + 1 + 1 + 1), mkS (k + 1 + 1 + 1 + 1 + 1) n.names.length, mkI (k + 1 + 1 + 1 + 1 + 1 + n.names.length) n.kids.length⟩
def Nd.cnt (n : Nd) : Nat := 5 + n.names.length + n.kids.length
def markNds : List Nd → Int → List Nd
  | [], _ => []
  | n :: r, k => n.mark k :: markNds r (k + n.cnt)
def cntNds : List Nd → Nat
  | [] => 0
  | n :: r => n.cnt + cntNds r
theorem cntNds_append (a b : List Nd) : cntNds (a ++ b) = cntNds a + cntNds b := by
  induction a with
  | nil => simp [cntNds]
  | cons n r ih => simp [cntNds, ih]; omega
theorem cntNds_take_succ {ts : List Nd} {i : Nat} {n : Nd} (h : ts[i]? = some n) : cntNds (ts.take (i + 1)) = cntNds (ts.take i) + n.cnt := by
  obtain ⟨h1, rfl⟩ := List.getElem?_eq_some_iff.1 h
  rw [List.take_succ_eq_append_getElem h1, cntNds_append]; simp [cntNds]
theorem cntNds_take_le (ts : List Nd) (i : Nat) : cntNds (ts.take i) ≤ cntNds ts := by
  have := cntNds_append (ts.take i) (ts.drop i)
  rw [List.take_append_drop] at this
  omega
@[simp] theorem markNds_length (ts : List Nd) : ∀ k : Int, (markNds ts k).length = ts.length := by
  induction ts with
  | nil => intro k; rfl
  | cons n r ih => intro k; simp [markNds, ih]
theorem markNds_append (a : List Nd) : ∀ (b : List Nd) (k : Int), markNds (a ++ b) k = markNds a k ++ markNds b (k + cntNds a) := by
  induction a with
  | nil => intro b k; simp [markNds, cntNds]
  | cons n r ih => intro b k; simp [markNds, cntNds, ih]; congr 1; omega
theorem markNds_get {ts : List Nd} {i : Nat} {n : Nd} (h : ts[i]? = some n) (k : Int) : (markNds ts k)[i]? = some (n.mark (k + cntNds (ts.take i))) := by
  obtain ⟨h1, rfl⟩ := List.getElem?_eq_some_iff.1 h
  have e : ts = ts.take i ++ (ts[i] :: ts.drop (i + 1)) := by rw [← List.drop_eq_getElem_cons h1, List.take_append_drop]
  have := markNds_append (ts.take i) (ts[i] :: ts.drop (i + 1)) k
  rw [← e] at this
  rw [this, List.getElem?_append_right (by simp; omega), markNds_length, List.length_take, Nat.min_eq_left (by omega), Nat.sub_self]
  rfl
/-- Some nodes are marked. -/
def mixed (ts : List Nd) (k : Int) (i : Nat) : List Nd := markNds (ts.take i) k ++ ts.drop i
theorem mixed_get {ts : List Nd} {i : Nat} {n : Nd} (h : ts[i]? = some n) (k : Int) : (mixed ts k i)[i]? = some n := by
  have h1 := (List.getElem?_eq_some_iff.1 h).1
  unfold mixed
  rw [List.getElem?_append_right (by simp; omega), markNds_length, List.length_take, Nat.min_eq_left (by omega), Nat.sub_self, List.getElem?_drop]
  exact h
theorem mixed_succ {ts : List Nd} {i : Nat} {n : Nd} (h : ts[i]? = some n) (k : Int) : mixed ts k (i + 1) = (mixed ts k i).set i (n.mark (k + cntNds (ts.take i))) := by
  obtain ⟨h1, rfl⟩ := List.getElem?_eq_some_iff.1 h
  unfold mixed
  rw [List.take_succ_eq_append_getElem h1, markNds_append, List.drop_eq_getElem_cons h1, List.set_append, if_neg (by simp; omega), markNds_length, List.length_take, Nat.min_eq_left (Nat.le_of_lt h1), Nat.sub_self, List.append_assoc]
  rfl
theorem mixed_zero (ts : List Nd) (k : Int) : mixed ts k 0 = ts := by simp [mixed, markNds]
theorem mixed_all (ts : List Nd) (k : Int) : mixed ts k ts.length = markNds ts k := by simp [mixed]

theorem cnt_mixed {ts : List Nd} (k : Int) : ∀ i, i ≤ ts.length → ∀ p, cnt (mixed ts k i) p = cnt ts p := by
  intro i
  induction i with
  | zero => intro _ p; rw [mixed_zero]
  | succ i ih =>
    intro hi p
    have hu : ts[i]? = some ts[i] := List.getElem?_eq_getElem (by omega)
    rw [mixed_succ hu, cnt_set (mixed_get hu k) (by simp [Nd.mark]) (by simp [Nd.mark])]
    exact ih (by omega) p

theorem markStringS_p (v : Value) (n g : Nat) (k : Int) (w : World) (hw : Wr1 w v n g) (h0 : 0 ≤ k) (h1 : k + n ≤ 17592186044416) :
    Calls Tryz.prog 41 #[v, .int .i64 k] w fun e w' => e = .returned (.int .i64 (k + n)) ∧ ExcP (fun j => 0 < n ∧ j = g) w w' ∧ Row1 w' v (strs (mkS k n)) ∧ Wr1 w' v n g := by
  rcases Nat.eq_zero_or_pos n with rfl | hn
  · exact (markStringS_vc v 0 w.heap.size k w (hw.none _) h0 h1).mono fun e w' ⟨a, b, c, d⟩ => ⟨a, ⟨b.os, b.tape, b.output, b.size, fun j hj _ => b.block j hj (by omega)⟩, c, d.none _⟩
  · exact (markStringS_vc v n g k w hw h0 h1).mono fun e w' ⟨a, b, c, d⟩ => ⟨a, ⟨b.os, b.tape, b.output, b.size, fun j hj hS => b.block j hj (fun e => hS ⟨hn, e⟩)⟩, c, d⟩
theorem markIntS_p (v : Value) (n g : Nat) (k : Int) (w : World) (hw : Wr1 w v n g) (h0 : 0 ≤ k) (h1 : k + n ≤ 17592186044416) :
    Calls Tryz.prog 42 #[v, .int .i64 k] w fun e w' => e = .returned (.int .i64 (k + n)) ∧ ExcP (fun j => 0 < n ∧ j = g) w w' ∧ Row1 w' v (ints (mkI k n)) ∧ Wr1 w' v n g := by
  rw [ints_mkI]
  rcases Nat.eq_zero_or_pos n with rfl | hn
  · exact (markIntS_vc v 0 w.heap.size k w (hw.none _) h0 (by omega) (by omega)).mono fun e w' ⟨a, b, c, d⟩ => ⟨a, ⟨b.os, b.tape, b.output, b.size, fun j hj _ => b.block j hj (by omega)⟩, c, d.none _⟩
  · exact (markIntS_vc v n g k w hw h0 (by omega) (by omega)).mono fun e w' ⟨a, b, c, d⟩ => ⟨a, ⟨b.os, b.tape, b.output, b.size, fun j hj hS => b.block j hj (fun e => hS ⟨hn, e⟩)⟩, c, d⟩
set_option maxHeartbeats 1000000 in
theorem markNodeS_vc (ts : List Nd) (v : Value) (lo hi : Nat) (k : Int) (w : World) (hT : TreeW lo hi w v ts) (hhi : hi ≤ w.heap.size) (h0 : 0 ≤ k) (h1 : k + cntNds ts ≤ 17592186044416) :
    Calls Tryz.prog 15 #[v, .int .i64 k] w fun e w' => e = .returned (.int .i64 (k + cntNds ts)) ∧ ExcP (fun j => lo ≤ j ∧ j < hi) w w' ∧ TreeW lo hi w' v (markNds ts k) := by
  obtain ⟨ad, cap, g, blk, nf, kf, rfl, hlc, hcm, hp, hr, hne⟩ := hT
  refine calls_of cx_ok Tryz.func15 Tryz.ntmps15 Tryz.results15 rfl rfl ?_
  repeat (first | refine jC ?_ | refine jN ?_ | refine jS ?_ | refine jR ?_ | refine jT ?_ | refine jB ?_ | refine jX rfl ?_ | refine jY rfl ?_ | refine jK ?_ | refine jD ?_ | refine jE ?_)
  refine WpC.loop (α := Nat × World) (fun x => ⟨[(0, .v (.slice ad ts.length cap)), (1, .v (.int .i64 (k + cntNds (ts.take x.1)))), (5, .v (.int .i64 (x.1 : Int)))], [], x.2⟩)
    (fun x => x.1 ≤ ts.length ∧ ExcP (fun j => lo ≤ j ∧ j < hi) w x.2 ∧ Pcs lo hi x.2 (mixed ts k x.1) blk nf kf ∧ ∀ o, ad = some ⟨g, o, none⟩ → 0 < ts.length → MutN x.2 g o (ts.length * 7) ∧ ∀ j m, (mixed ts k x.1)[j]? = some m → CellsAt x.2 g (o + j * 7) (m.cells (nf j) (kf j))) (fun x => ts.length - x.1) (0, w)
    ⟨Nat.zero_le _, ExcP.refl _ _, by rw [mixed_zero]; exact hp, fun o e hl => ?_⟩ ⟨⟨rfl, by show some _ = some _; simp [cntNds], rfl, trivial⟩, trivial, trivial, Ext.refl _⟩ ?_
  · obtain ⟨_, _, o', e', hm, hc⟩ := hr hl
    rw [e] at e'
    cases e'
    exact ⟨hm, by rw [mixed_zero]; exact hc⟩
  rintro ⟨i, wi⟩ ⟨hi', hx, hp, hc⟩
  dsimp only at hi' hx hp hc ⊢
  repeat (first | refine jC ?_ | refine jN ?_ | refine jS ?_ | refine jR ?_ | refine jT ?_ | refine jB ?_ | refine jX rfl ?_ | refine jY rfl ?_ | refine jK ?_ | refine jD ?_ | refine jE ?_)
  refine Br.intro (fun h => ?_) (fun h => ?_)
  · have hlt : i < ts.length := by have := of_decide_eq_true h; omega
    obtain ⟨hg1, hg2, o, rfl, _, _⟩ := hr (by omega)
    obtain ⟨hm, hci⟩ := hc o rfl (by omega)
    have hu : ts[i]? = some ts[i] := List.getElem?_eq_getElem hlt
    generalize ts[i] = n at hu
    have hmx := mixed_get hu k
    have hkb := cntNds_take_succ hu
    have hkl := cntNds_take_le ts (i + 1)
    have hcn : n.cnt = 5 + n.names.length + n.kids.length := rfl
    have hms := mixed_succ hu k
    obtain ⟨⟨hn1, hn2⟩, hW1, hW2⟩ := hp.nd i n hmx
    have hc0 := hci i n hmx
    generalize hkk : k + (cntNds (ts.take i) : Int) = kk at hms ⊢
    have hm7 : ∀ c, c < 7 → MutN wi g (o + i * 7 + c) 1 := fun c hc => by
      have := hm.sub (k := i * 7 + c) (m := 1) (by omega)
      rwa [← Nat.add_assoc] at this
    repeat (first | refine jC ?_ | refine jN ?_ | refine jS ?_ | refine jR ?_ | refine jT ?_ | refine jB ?_ | refine jX rfl ?_ | refine jY rfl ?_ | refine jK ?_ | refine jD ?_ | refine jE ?_)
    refine ⟨by omega, ?_⟩
    repeat (first | refine jC ?_ | refine jN ?_ | refine jS ?_ | refine jR ?_ | refine jT ?_ | refine jB ?_ | refine jX rfl ?_ | refine jY rfl ?_ | refine jK ?_ | refine jD ?_ | refine jE ?_)
    refine Ix.mk i rfl hlt ?_
    repeat (first | refine jC ?_ | refine jN ?_ | refine jS ?_ | refine jR ?_ | refine jT ?_ | refine jB ?_ | refine jX rfl ?_ | refine jY rfl ?_ | refine jK ?_ | refine jD ?_ | refine jE ?_)
    refine ⟨hm7 0 (by omega), trivial, rfl, by simp [Value.oneCell'], ?_⟩
    repeat (first | refine jC ?_ | refine jN ?_ | refine jS ?_ | refine jR ?_ | refine jT ?_ | refine jB ?_ | refine jX rfl ?_ | refine jY rfl ?_ | refine jK ?_ | refine jD ?_ | refine jE ?_)
    refine ⟨I64.mk (by omega), ?_⟩
    repeat (first | refine jC ?_ | refine jN ?_ | refine jS ?_ | refine jR ?_ | refine jT ?_ | refine jB ?_ | refine jX rfl ?_ | refine jY rfl ?_ | refine jK ?_ | refine jD ?_ | refine jE ?_)
    refine Ix.mk i rfl hlt ?_
    repeat (first | refine jC ?_ | refine jN ?_ | refine jS ?_ | refine jR ?_ | refine jT ?_ | refine jB ?_ | refine jX rfl ?_ | refine jY rfl ?_ | refine jK ?_ | refine jD ?_ | refine jE ?_)
    refine ⟨MutN.setL _ _ _ (hm7 1 (by omega)), trivial, rfl, by simp [Value.oneCell'], ?_⟩
    repeat (first | refine jC ?_ | refine jN ?_ | refine jS ?_ | refine jR ?_ | refine jT ?_ | refine jB ?_ | refine jX rfl ?_ | refine jY rfl ?_ | refine jK ?_ | refine jD ?_ | refine jE ?_)
    refine ⟨I64.mk (by omega), ?_⟩
    repeat (first | refine jC ?_ | refine jN ?_ | refine jS ?_ | refine jR ?_ | refine jT ?_ | refine jB ?_ | refine jX rfl ?_ | refine jY rfl ?_ | refine jK ?_ | refine jD ?_ | refine jE ?_)
    refine Ix.mk i rfl hlt ?_
    repeat (first | refine jC ?_ | refine jN ?_ | refine jS ?_ | refine jR ?_ | refine jT ?_ | refine jB ?_ | refine jX rfl ?_ | refine jY rfl ?_ | refine jK ?_ | refine jD ?_ | refine jE ?_)
    refine ⟨MutN.setL _ _ _ (MutN.setL _ _ _ (hm7 2 (by omega))), trivial, rfl, by simp [Value.oneCell'], ?_⟩
    repeat (first | refine jC ?_ | refine jN ?_ | refine jS ?_ | refine jR ?_ | refine jT ?_ | refine jB ?_ | refine jX rfl ?_ | refine jY rfl ?_ | refine jK ?_ | refine jD ?_ | refine jE ?_)
    refine ⟨I64.mk (by omega), ?_⟩
    repeat (first | refine jC ?_ | refine jN ?_ | refine jS ?_ | refine jR ?_ | refine jT ?_ | refine jB ?_ | refine jX rfl ?_ | refine jY rfl ?_ | refine jK ?_ | refine jD ?_ | refine jE ?_)
    refine Ix.mk i rfl hlt ?_
    repeat (first | refine jC ?_ | refine jN ?_ | refine jS ?_ | refine jR ?_ | refine jT ?_ | refine jB ?_ | refine jX rfl ?_ | refine jY rfl ?_ | refine jK ?_ | refine jD ?_ | refine jE ?_)
    refine ⟨MutN.setL _ _ _ (MutN.setL _ _ _ (MutN.setL _ _ _ (hm7 3 (by omega)))), trivial, rfl, by simp [Value.oneCell'], ?_⟩
    repeat (first | refine jC ?_ | refine jN ?_ | refine jS ?_ | refine jR ?_ | refine jT ?_ | refine jB ?_ | refine jX rfl ?_ | refine jY rfl ?_ | refine jK ?_ | refine jD ?_ | refine jE ?_)
    refine ⟨I64.mk (by omega), ?_⟩
    repeat (first | refine jC ?_ | refine jN ?_ | refine jS ?_ | refine jR ?_ | refine jT ?_ | refine jB ?_ | refine jX rfl ?_ | refine jY rfl ?_ | refine jK ?_ | refine jD ?_ | refine jE ?_)
    refine CallV.val (fun w' _ _ => markText_vc _ w' (by omega)) ?_
    repeat (first | refine jC ?_ | refine jN ?_ | refine jS ?_ | refine jR ?_ | refine jT ?_ | refine jB ?_ | refine jX rfl ?_ | refine jY rfl ?_ | refine jK ?_ | refine jD ?_ | refine jE ?_)
    refine Ix.mk i rfl hlt ?_
    repeat (first | refine jC ?_ | refine jN ?_ | refine jS ?_ | refine jR ?_ | refine jT ?_ | refine jB ?_ | refine jX rfl ?_ | refine jY rfl ?_ | refine jK ?_ | refine jD ?_ | refine jE ?_)
    refine ⟨MutN.setL _ _ _ (MutN.setL _ _ _ (MutN.setL _ _ _ (MutN.setL _ _ _ (hm7 4 (by omega))))), trivial, rfl, by simp [Value.oneCell'], ?_⟩
    have hx5 : ExcP (fun j => j = g) wi (setL (setL (setL (setL (setL wi g (o + i * 7 + 0) [Value.bool (decide (kk % 3 = 0))]) g (o + i * 7 + 1) [Value.int IntKind.i64 (kk + 1)]) g (o + i * 7 + 2) [Value.int IntKind.i64 (kk + 1 + 1)]) g (o + i * 7 + 3) [Value.int IntKind.i64 (kk + 1 + 1 + 1)]) g (o + i * 7 + 4) [Value.string (markT (kk + 1 + 1 + 1 + 1))]) :=
      ((((ExcP.refl (fun j => j = g) wi).setL (S := fun j => j = g) (g := g) rfl _ _).setL (S := fun j => j = g) (g := g) rfl _ _).setL (S := fun j => j = g) (g := g) rfl _ _).setL (S := fun j => j = g) (g := g) rfl _ _ |>.setL (S := fun j => j = g) (g := g) rfl _ _
    have hm5 : MutN (setL (setL (setL (setL (setL wi g (o + i * 7 + 0) [Value.bool (decide (kk % 3 = 0))]) g (o + i * 7 + 1) [Value.int IntKind.i64 (kk + 1)]) g (o + i * 7 + 2) [Value.int IntKind.i64 (kk + 1 + 1)]) g (o + i * 7 + 3) [Value.int IntKind.i64 (kk + 1 + 1 + 1)]) g (o + i * 7 + 4) [Value.string (markT (kk + 1 + 1 + 1 + 1))]) g o (ts.length * 7) :=
      MutN.setL _ _ _ (MutN.setL _ _ _ (MutN.setL _ _ _ (MutN.setL _ _ _ (MutN.setL _ _ _ hm))))
    have hc5 : CellsAt (setL (setL (setL (setL (setL wi g (o + i * 7 + 0) [Value.bool (decide (kk % 3 = 0))]) g (o + i * 7 + 1) [Value.int IntKind.i64 (kk + 1)]) g (o + i * 7 + 2) [Value.int IntKind.i64 (kk + 1 + 1)]) g (o + i * 7 + 3) [Value.int IntKind.i64 (kk + 1 + 1 + 1)]) g (o + i * 7 + 4) [Value.string (markT (kk + 1 + 1 + 1 + 1))]) g (o + i * 7) ((n.mark kk).cells (nf i) (kf i)) :=
      ((((hc0.setAt (hm7 0 (by omega)) (by simp)).setAt (MutN.setL _ _ _ (hm7 1 (by omega))) (by simp)).setAt (MutN.setL _ _ _ (MutN.setL _ _ _ (hm7 2 (by omega)))) (by simp)).setAt (MutN.setL _ _ _ (MutN.setL _ _ _ (MutN.setL _ _ _ (hm7 3 (by omega))))) (by simp)).setAt (MutN.setL _ _ _ (MutN.setL _ _ _ (MutN.setL _ _ _ (MutN.setL _ _ _ (hm7 4 (by omega)))))) (by simp)
    have hoth : ∀ j m, j ≠ i → (mixed ts k i)[j]? = some m → CellsAt (setL (setL (setL (setL (setL wi g (o + i * 7 + 0) [Value.bool (decide (kk % 3 = 0))]) g (o + i * 7 + 1) [Value.int IntKind.i64 (kk + 1)]) g (o + i * 7 + 2) [Value.int IntKind.i64 (kk + 1 + 1)]) g (o + i * 7 + 3) [Value.int IntKind.i64 (kk + 1 + 1 + 1)]) g (o + i * 7 + 4) [Value.string (markT (kk + 1 + 1 + 1 + 1))]) g (o + j * 7) (m.cells (nf j) (kf j)) := by
      intro j m hji hj
      have d : ∀ c, c < 7 → g ≠ g ∨ o + j * 7 + (m.cells (nf j) (kf j)).length ≤ o + i * 7 + c ∨ o + i * 7 + c + 1 ≤ o + j * 7 := fun c hc => by
        show _ ∨ o + j * 7 + 7 ≤ _ ∨ _
        omega
      exact (((((hci j m hj).setL_out (d 0 (by omega))).setL_out (d 1 (by omega))).setL_out (d 2 (by omega))).setL_out (d 3 (by omega))).setL_out (d 4 (by omega))
    generalize setL (setL (setL (setL (setL wi g (o + i * 7 + 0) [Value.bool (decide (kk % 3 = 0))]) g (o + i * 7 + 1) [Value.int IntKind.i64 (kk + 1)]) g (o + i * 7 + 2) [Value.int IntKind.i64 (kk + 1 + 1)]) g (o + i * 7 + 3) [Value.int IntKind.i64 (kk + 1 + 1 + 1)]) g (o + i * 7 + 4) [Value.string (markT (kk + 1 + 1 + 1 + 1))] = w5 at hx5 hm5 hc5 hoth ⊢
    have hcm' := cnt_mixed (ts := ts) k i hi'
    have hz5 := hx5.size
    have hxz := hx.size
    have hp5 : Pcs lo hi w5 (mixed ts k i) blk nf kf := hp.exc hx5 fun p h0 e => hne p (by rwa [hcm'] at h0) e
    obtain ⟨⟨hn1, hn2⟩, hW1, hW2⟩ := hp5.nd i n hmx
    have hb1 : 0 < n.names.length → blk (2 * i) ≠ g ∧ lo ≤ blk (2 * i) ∧ blk (2 * i) < hi := fun h0 => by
      have h0' : 0 < cnt (mixed ts k i) (2 * i) := by rw [cnt_names hmx]; exact h0
      exact ⟨hne _ (by rwa [hcm'] at h0'), hp5.rng _ h0'⟩
    have hb2 : 0 < n.kids.length → blk (2 * i + 1) ≠ g ∧ lo ≤ blk (2 * i + 1) ∧ blk (2 * i + 1) < hi := fun h0 => by
      have h0' : 0 < cnt (mixed ts k i) (2 * i + 1) := by rw [cnt_kids hmx]; exact h0
      exact ⟨hne _ (by rwa [hcm'] at h0'), hp5.rng _ h0'⟩
    have hb12 : 0 < n.names.length → 0 < n.kids.length → blk (2 * i) ≠ blk (2 * i + 1) := fun h0 h1 => hp5.ne _ _ (by omega) (by rw [cnt_names hmx]; exact h0) (by rw [cnt_kids hmx]; exact h1)
    repeat (first | refine jC ?_ | refine jN ?_ | refine jS ?_ | refine jR ?_ | refine jT ?_ | refine jB ?_ | refine jX rfl ?_ | refine jY rfl ?_ | refine jK ?_ | refine jD ?_ | refine jE ?_)
    refine ⟨I64.mk (by omega), ?_⟩
    repeat (first | refine jC ?_ | refine jN ?_ | refine jS ?_ | refine jR ?_ | refine jT ?_ | refine jB ?_ | refine jX rfl ?_ | refine jY rfl ?_ | refine jK ?_ | refine jD ?_ | refine jE ?_)
    refine Ix.mk i rfl hlt ?_
    repeat (first | refine jC ?_ | refine jN ?_ | refine jS ?_ | refine jR ?_ | refine jT ?_ | refine jB ?_ | refine jX rfl ?_ | refine jY rfl ?_ | refine jK ?_ | refine jD ?_ | refine jE ?_)
    refine Ld.mk (hc5.out 5 _ rfl) ?_
    repeat (first | refine jC ?_ | refine jN ?_ | refine jS ?_ | refine jR ?_ | refine jT ?_ | refine jB ?_ | refine jX rfl ?_ | refine jY rfl ?_ | refine jK ?_ | refine jD ?_ | refine jE ?_)
    refine CallV.turn (Φ := fun v _ w' => v = .int .i64 (kk + 1 + 1 + 1 + 1 + 1 + (n.names.length : Nat)) ∧ ExcP (fun j => 0 < n.names.length ∧ j = blk (2 * i)) w5 w' ∧ Row1 w' (nf i) (strs (mkS (kk + 1 + 1 + 1 + 1 + 1) n.names.length)) ∧ Wr1 w' (nf i) n.names.length (blk (2 * i))) (fun w' hw _ => ?_) (fun v wA w6 hwA ⟨e, hx6, hR6, hW6⟩ => ?_)
    · exact (markStringS_p (nf i) _ _ _ w' (hW1.ext hw) (by omega) (by omega)).mono fun e w2 ⟨h1, h2, h3, h4⟩ => ⟨_, h1, rfl, (ExcP.of_ext hw).trans h2, h3, h4⟩
    subst e
    have hg5 : g < w5.heap.size := by omega
    have hc6 := hc5.exc hg5 hx6 (fun ⟨h0, e⟩ => (hb1 h0).1 e.symm)
    have hW26 : Wr1 w6 (kf i) n.kids.length (blk (2 * i + 1)) := hW2.exc hx6 (fun h0 ⟨h1, e⟩ => hb12 h1 h0 e.symm)
    repeat (first | refine jC ?_ | refine jN ?_ | refine jS ?_ | refine jR ?_ | refine jT ?_ | refine jB ?_ | refine jX rfl ?_ | refine jY rfl ?_ | refine jK ?_ | refine jD ?_ | refine jE ?_)
    refine Ix.mk i rfl hlt ?_
    repeat (first | refine jC ?_ | refine jN ?_ | refine jS ?_ | refine jR ?_ | refine jT ?_ | refine jB ?_ | refine jX rfl ?_ | refine jY rfl ?_ | refine jK ?_ | refine jD ?_ | refine jE ?_)
    refine Ld.mk (hc6.out 6 _ rfl) ?_
    repeat (first | refine jC ?_ | refine jN ?_ | refine jS ?_ | refine jR ?_ | refine jT ?_ | refine jB ?_ | refine jX rfl ?_ | refine jY rfl ?_ | refine jK ?_ | refine jD ?_ | refine jE ?_)
    refine CallV.turn (Φ := fun v _ w' => v = .int .i64 (kk + 1 + 1 + 1 + 1 + 1 + (n.names.length : Nat) + (n.kids.length : Nat)) ∧ ExcP (fun j => 0 < n.kids.length ∧ j = blk (2 * i + 1)) w6 w' ∧ Row1 w' (kf i) (ints (mkI (kk + 1 + 1 + 1 + 1 + 1 + (n.names.length : Nat)) n.kids.length)) ∧ Wr1 w' (kf i) n.kids.length (blk (2 * i + 1))) (fun w' hw _ => ?_) (fun v wB w7 hwB ⟨e, hx7, hR7, hW7⟩ => ?_)
    · exact (markIntS_p (kf i) _ _ _ w' (hW26.ext hw) (by omega) (by omega)).mono fun e w2 ⟨h1, h2, h3, h4⟩ => ⟨_, h1, rfl, (ExcP.of_ext hw).trans h2, h3, h4⟩
    subst e
    have hz6 := hx6.size
    repeat (first | refine jC ?_ | refine jN ?_ | refine jS ?_ | refine jR ?_ | refine jT ?_ | refine jB ?_ | refine jX rfl ?_ | refine jY rfl ?_ | refine jK ?_ | refine jD ?_ | refine jE ?_)
    refine ⟨I64.mk (by omega), ?_⟩
    repeat (first | refine jC ?_ | refine jN ?_ | refine jS ?_ | refine jR ?_ | refine jT ?_ | refine jB ?_ | refine jX rfl ?_ | refine jY rfl ?_ | refine jK ?_ | refine jD ?_ | refine jE ?_)
    have hR67 := row1_exc hR6 (n := n.names.length) (by simp) hW6 hx7 (fun h0 ⟨h1, e⟩ => hb12 h0 h1 e)
    have hW67 := hW6.exc hx7 (fun h0 ⟨h1, e⟩ => hb12 h0 h1 e)
    have hx57 : ExcP (fun j => (0 < n.names.length ∧ j = blk (2 * i)) ∨ (0 < n.kids.length ∧ j = blk (2 * i + 1))) w5 w7 := (hx6.mono fun _ h => .inl h).trans (hx7.mono fun _ h => .inr h)
    have hng : ¬ ((0 < n.names.length ∧ g = blk (2 * i)) ∨ (0 < n.kids.length ∧ g = blk (2 * i + 1))) := by
      rintro (⟨h0, e⟩ | ⟨h0, e⟩)
      · exact (hb1 h0).1 e.symm
      · exact (hb2 h0).1 e.symm
    refine ⟨(i + 1, w7), ⟨hlt, ?_, ?_, fun o' e _ => ?_⟩, by show ts.length - (i + 1) < ts.length - i; omega, ⟨rfl, ?_, rfl, trivial⟩, trivial, trivial, Ext.refl _⟩
    · refine (hx.trans (hx5.mono fun j e => by subst e; exact ⟨hg1, hg2⟩)).trans (hx57.mono ?_)
      rintro j (⟨h0, rfl⟩ | ⟨h0, rfl⟩)
      · exact (hb1 h0).2
      · exact (hb2 h0).2
    · show Pcs lo hi w7 (mixed ts k (i + 1)) blk nf kf
      rw [hms]
      refine hp5.set hmx (by simp [Nd.mark]) (by simp [Nd.mark]) hx57 (fun p h0 hpi => ?_) ⟨hR67, hR7⟩ ?_ ?_
      · rintro (⟨h1, e⟩ | ⟨h1, e⟩)
        · exact hp5.ne p (2 * i) (fun e => by subst e; omega) h0 (by rw [cnt_names hmx]; exact h1) e
        · exact hp5.ne p (2 * i + 1) (fun e => by subst e; omega) h0 (by rw [cnt_kids hmx]; exact h1) e
      · simpa [Nd.mark] using hW67
      · simpa [Nd.mark] using hW7
    · cases e
      refine ⟨hm5.exc hg5 hx57 hng, fun j m hj => ?_⟩
      have hj : (mixed ts k (i + 1))[j]? = some m := hj
      rw [hms, List.getElem?_set] at hj
      by_cases hij : i = j
      · subst hij
        rw [if_pos rfl, if_pos (List.getElem?_eq_some_iff.1 hmx).1] at hj
        cases hj
        exact hc5.exc hg5 hx57 hng
      · rw [if_neg hij] at hj
        exact (hoth j m (fun e => hij e.symm) hj).exc hg5 hx57 hng
    · show some _ = some _
      rw [hkb]
      congr 3
      omega
  · have hie : i = ts.length := by have := of_decide_eq_false h; omega
    subst hie
    rw [mixed_all] at hp hc
    rw [List.take_length]
    repeat (first | refine jC ?_ | refine jN ?_ | refine jS ?_ | refine jR ?_ | refine jT ?_ | refine jB ?_ | refine jX rfl ?_ | refine jY rfl ?_ | refine jK ?_ | refine jD ?_ | refine jE ?_)
    refine EndV.mk fun w' hw' => ⟨rfl, hx.trans (ExcP.of_ext hw'), ad, cap, g, blk, nf, kf, by rw [markNds_length], by rw [markNds_length]; exact hlc, hcm, hp.ext hw', fun h0 => ?_, fun p h0 => ?_⟩
    · rw [markNds_length] at h0 ⊢
      obtain ⟨a, b, o, e, _, _⟩ := hr h0
      obtain ⟨hm, hci⟩ := hc o e h0
      exact ⟨a, b, o, e, hm.ext hw', fun j m hj => (hci j m hj).ext hw'⟩
    · have := cnt_mixed (ts := ts) k ts.length (Nat.le_refl _) p
      rw [mixed_all] at this
      exact hne p (by omega)
theorem szNd_take {n : Nd} {m : Int} (h : 0 ≤ szNd n m) : szNd n m ≤ m - n.names.length - n.kids.length := by
  unfold szNd at h ⊢
  split at h
  · omega
  · rename_i h0
    rw [if_neg h0]
    simp only at h ⊢
    split at h
    · omega
    · rename_i h2
      rw [if_neg h2]
      split at h
      · omega
      · rename_i h3
        rw [if_neg h3]
        have h4 : szNames n.names (m - n.text.size) ≤ m - n.names.length := by
          unfold szNames at h2 ⊢
          split
          · rename_i h5; rw [if_pos h5] at h2; omega
          · have := szStrs_le n.names (m - n.text.size - n.names.length) (by omega)
            omega
        omega
theorem szGoN_cnt (ts : List Nd) : ∀ m : Int, 0 ≤ m → 0 ≤ szGoN ts m → (cntNds ts : Int) ≤ 5 * ts.length + m := by
  induction ts with
  | nil => intro m h0 _; simp [cntNds]; omega
  | cons x r ih =>
    intro m h0 h
    simp only [szGoN] at h
    split at h
    · omega
    · rename_i h1
      have h2 := ih (szNd x m) (by omega) h
      have h3 := szNd_take (n := x) (m := m) (by omega)
      simp only [cntNds, Nd.cnt, List.length_cons]
      omega
theorem szNds_cnt {ts : List Nd} (h : ¬ szNds ts 1048576 < 0) : cntNds ts ≤ 6291456 := by
  unfold szNds at h
  split at h
  · omega
  · have := szGoN_cnt ts (1048576 - ts.length) (by omega) (by omega)
    omega
end Go.Proofs.YtbnjjpgacemicaaGreatDoor
