/-
  Contracts: marks in texts and in nodes.
  Conditions: none but bounds.
-/
import Derived.Test.YtlnlpholhnbifaaDoorNodeX
import Derived.Test.YtlnlpholhnbifaaDoorExcP
namespace Go.Proofs.YtlnlpholhnbifaaDoor
open Go.RowKit Vc
attribute [local irreducible] WpC WpL WpD CallV QCallV Made AppV Ld LdN Ix EndV I64 MutN Mut CellsAt

/-- Where nothing is written, no block counts. -/
theorem Wr1.none {w : World} {v : Value} {g : Nat} (h : Wr1 w v 0 g) (g' : Nat) : Wr1 w v 0 g' := by
  obtain ⟨ad, cap, e, h1, h2, _⟩ := h
  exact ⟨ad, cap, e, h1, h2, fun h0 => absurd h0 (by omega)⟩

def mkS (k : Int) (n : Nat) : List ByteArray := (List.range n).map fun (i : Nat) => markT (k + (i : Int))
def mkI (k : Int) (n : Nat) : List Int := (List.range n).map fun (i : Nat) => k + (i : Int)
@[simp] theorem mkS_length (k : Int) (n : Nat) : (mkS k n).length = n := by simp [mkS]
@[simp] theorem mkI_length (k : Int) (n : Nat) : (mkI k n).length = n := by simp [mkI]
theorem ints_mkI (k : Int) (n : Nat) : ints (mkI k n) = upI k n := by simp [mkI, upI]
theorem mkS_get {k : Int} {n i : Nat} (h : i < n) : (strs (mkS k n))[i]? = some (.string (markT (k + (i : Int)))) := by simp [mkS, h]

theorem markStringS_vc (v : Value) (n g : Nat) (k : Int) (w : World) (hw : Wr1 w v n g) (h0 : 0 ≤ k) (h1 : k + n ≤ 17592186044416) :
    Calls Tryd.prog 12 #[v, .int .i64 k] w fun e w' => e = .returned (.int .i64 (k + n)) ∧ Exc g w w' ∧ Row1 w' v (strs (mkS k n)) ∧ Wr1 w' v n g := by
  obtain ⟨ad, cap, rfl, hlc, hcm, hat⟩ := hw
  refine calls_of cx_ok Tryd.func12 Tryd.ntmps12 Tryd.results12 rfl rfl ?_
  repeat (first | refine jC ?_ | refine jN ?_ | refine jS ?_ | refine jR ?_ | refine jT ?_ | refine jB ?_ | refine jX rfl ?_ | refine jY rfl ?_ | refine jK ?_ | refine jD ?_ | refine jE ?_)
  refine WpC.loop (α := Nat × World) (fun x => ⟨[(0, .v (.slice ad n cap)), (1, .v (.int .i64 (k + x.1))), (5, .v (.int .i64 (x.1 : Int)))], [], x.2⟩)
    (fun x => x.1 ≤ n ∧ Exc g w x.2 ∧ ∀ o, ad = some ⟨g, o, none⟩ → 0 < n → MutN x.2 g o n ∧ CellsAt x.2 g o (strs (mkS k x.1))) (fun x => n - x.1) (0, w)
    ⟨Nat.zero_le _, Exc.refl _ _, fun o e h0 => by obtain ⟨o', e', hm⟩ := hat h0; rw [e] at e'; cases e'; exact ⟨hm, CellsAt.nil⟩⟩ ⟨⟨rfl, by show some _ = some _; simp, rfl, trivial⟩, trivial, trivial, Ext.refl _⟩ ?_
  rintro ⟨i, wi⟩ ⟨hi, hx, hc⟩
  dsimp only at hi hx hc
  repeat (first | refine jC ?_ | refine jN ?_ | refine jS ?_ | refine jR ?_ | refine jT ?_ | refine jB ?_ | refine jX rfl ?_ | refine jY rfl ?_ | refine jK ?_ | refine jD ?_ | refine jE ?_)
  refine Br.intro (fun h => ?_) (fun h => ?_)
  · have hlt : i < n := by have := of_decide_eq_true h; omega
    obtain ⟨o, rfl, _⟩ := hat (by omega)
    obtain ⟨hm, hci⟩ := hc o rfl (by omega)
    repeat (first | refine jC ?_ | refine jN ?_ | refine jS ?_ | refine jR ?_ | refine jT ?_ | refine jB ?_ | refine jX rfl ?_ | refine jY rfl ?_ | refine jK ?_ | refine jD ?_ | refine jE ?_)
    refine CallV.val (fun w' _ _ => markText_vc (k + (i : Int)) w' (by omega)) ?_
    repeat (first | refine jC ?_ | refine jN ?_ | refine jS ?_ | refine jR ?_ | refine jT ?_ | refine jB ?_ | refine jX rfl ?_ | refine jY rfl ?_ | refine jK ?_ | refine jD ?_ | refine jE ?_)
    refine Ix.mk i rfl hlt ?_
    repeat (first | refine jC ?_ | refine jN ?_ | refine jS ?_ | refine jR ?_ | refine jT ?_ | refine jB ?_ | refine jX rfl ?_ | refine jY rfl ?_ | refine jK ?_ | refine jD ?_ | refine jE ?_)
    have hm1 : MutN wi g (o + i) 1 := hm.sub (by omega)
    refine ⟨hm1, trivial, rfl, by simp [Value.oneCell'], ?_⟩
    repeat (first | refine jC ?_ | refine jN ?_ | refine jS ?_ | refine jR ?_ | refine jT ?_ | refine jB ?_ | refine jX rfl ?_ | refine jY rfl ?_ | refine jK ?_ | refine jD ?_ | refine jE ?_)
    refine ⟨I64.mk (by omega), ?_⟩
    repeat (first | refine jC ?_ | refine jN ?_ | refine jS ?_ | refine jR ?_ | refine jT ?_ | refine jB ?_ | refine jX rfl ?_ | refine jY rfl ?_ | refine jK ?_ | refine jD ?_ | refine jE ?_)
    refine ⟨I64.mk (by omega), ?_⟩
    repeat (first | refine jC ?_ | refine jN ?_ | refine jS ?_ | refine jR ?_ | refine jT ?_ | refine jB ?_ | refine jX rfl ?_ | refine jY rfl ?_ | refine jK ?_ | refine jD ?_ | refine jE ?_)
    refine ⟨(i + 1, setL wi g (o + i) [.string (markT (k + (i : Int)))]), ⟨hlt, hx.setL _ _, fun o' e _ => ?_⟩, by show n - (i + 1) < n - i; omega, ⟨rfl, by show some _ = some _; rw [show k + (i : Int) + 1 = k + ((i + 1 : Nat) : Int) by omega], rfl, trivial⟩, trivial, trivial, Ext.refl _⟩
    cases e
    refine ⟨MutN.setL _ _ _ hm, ?_⟩
    rw [show strs (mkS k (i + 1)) = strs (mkS k i) ++ [.string (markT (k + (i : Int)))] by simp [mkS, List.range_succ]]
    refine CellsAt.append (hci.setL_out (.inr (.inl (by simp [mkS])))) ?_
    rw [show (strs (mkS k i)).length = i by simp]
    exact CellsAt.setL_in hm1
  · have hie : i = n := by have := of_decide_eq_false h; omega
    subst hie
    repeat (first | refine jC ?_ | refine jN ?_ | refine jS ?_ | refine jR ?_ | refine jT ?_ | refine jB ?_ | refine jX rfl ?_ | refine jY rfl ?_ | refine jK ?_ | refine jD ?_ | refine jE ?_)
    refine EndV.mk fun w' hw' => ⟨rfl, hx.trans (Exc.of_ext hw'), Row1.ext ⟨ad, cap, by simp, by simp [hlc], hcm, fun h0 => ?_⟩ hw', ad, cap, rfl, hlc, hcm, fun h0 => ?_⟩
    · obtain ⟨o, e, _⟩ := hat (by simpa using h0)
      exact ⟨g, o, e, (hc o e (by simpa using h0)).2⟩
    · obtain ⟨o, e, _⟩ := hat h0
      exact ⟨o, e, (hc o e h0).1.ext hw'⟩
theorem heldStringS_vc (v : Value) (n : Nat) (k : Int) (w : World) (hr : Row1 w v (strs (mkS k n))) (h0 : 0 ≤ k) (h1 : k + n ≤ 17592186044416) :
    Gives Tryd.prog 13 #[v, .int .i64 k] w (.int .i64 (k + n)) := by
  obtain ⟨ad, cap, rfl, hlc, hcm, hat⟩ := hr
  have hlen : (strs (mkS k n)).length = n := by simp
  rw [hlen] at hlc hat ⊢
  refine calls_of cx_ok Tryd.func13 Tryd.ntmps13 Tryd.results13 rfl rfl ?_
  repeat (first | refine jC ?_ | refine jN ?_ | refine jS ?_ | refine jR ?_ | refine jT ?_ | refine jB ?_ | refine jX rfl ?_ | refine jY rfl ?_ | refine jK ?_ | refine jD ?_ | refine jE ?_)
  refine WpC.loop (α := Nat) (fun x => ⟨[(0, .v (.slice ad n cap)), (1, .v (.int .i64 (k + x))), (5, .v (.int .i64 (x : Int)))], [], w⟩)
    (fun x => x ≤ n) (fun x => n - x) 0 (Nat.zero_le _) ⟨⟨rfl, by show some _ = some _; simp, rfl, trivial⟩, trivial, trivial, Ext.refl _⟩ ?_
  intro i hi
  repeat (first | refine jC ?_ | refine jN ?_ | refine jS ?_ | refine jR ?_ | refine jT ?_ | refine jB ?_ | refine jX rfl ?_ | refine jY rfl ?_ | refine jK ?_ | refine jD ?_ | refine jE ?_)
  refine Br.intro (fun h => ?_) (fun h => ?_)
  · have hlt : i < n := by have := of_decide_eq_true h; omega
    obtain ⟨b, o, rfl, hc⟩ := hat (by omega)
    repeat (first | refine jC ?_ | refine jN ?_ | refine jS ?_ | refine jR ?_ | refine jT ?_ | refine jB ?_ | refine jX rfl ?_ | refine jY rfl ?_ | refine jK ?_ | refine jD ?_ | refine jE ?_)
    refine WpC.draw (by kernel_rfl) ?_
    repeat (first | refine jC ?_ | refine jN ?_ | refine jS ?_ | refine jR ?_ | refine jT ?_ | refine jB ?_ | refine jX rfl ?_ | refine jY rfl ?_ | refine jK ?_ | refine jD ?_ | refine jE ?_)
    refine Ix.mk i rfl hlt ?_
    repeat (first | refine jC ?_ | refine jN ?_ | refine jS ?_ | refine jR ?_ | refine jT ?_ | refine jB ?_ | refine jX rfl ?_ | refine jY rfl ?_ | refine jK ?_ | refine jD ?_ | refine jE ?_)
    refine Ld.mk (hc.out i _ (mkS_get hlt)) ?_
    repeat (first | refine jC ?_ | refine jN ?_ | refine jS ?_ | refine jR ?_ | refine jT ?_ | refine jB ?_ | refine jX rfl ?_ | refine jY rfl ?_ | refine jK ?_ | refine jD ?_ | refine jE ?_)
    refine QCallV.val (fun w' _ _ => markText_vc (k + (i : Int)) w' (by omega)) ?_
    repeat (first | refine jC ?_ | refine jN ?_ | refine jS ?_ | refine jR ?_ | refine jT ?_ | refine jB ?_ | refine jX rfl ?_ | refine jY rfl ?_ | refine jK ?_ | refine jD ?_ | refine jE ?_)
    refine Br.no (by simp) ?_
    repeat (first | refine jC ?_ | refine jN ?_ | refine jS ?_ | refine jR ?_ | refine jT ?_ | refine jB ?_ | refine jX rfl ?_ | refine jY rfl ?_ | refine jK ?_ | refine jD ?_ | refine jE ?_)
    refine ⟨I64.mk (by omega), ?_⟩
    repeat (first | refine jC ?_ | refine jN ?_ | refine jS ?_ | refine jR ?_ | refine jT ?_ | refine jB ?_ | refine jX rfl ?_ | refine jY rfl ?_ | refine jK ?_ | refine jD ?_ | refine jE ?_)
    refine ⟨I64.mk (by omega), ?_⟩
    repeat (first | refine jC ?_ | refine jN ?_ | refine jS ?_ | refine jR ?_ | refine jT ?_ | refine jB ?_ | refine jX rfl ?_ | refine jY rfl ?_ | refine jK ?_ | refine jD ?_ | refine jE ?_)
    exact ⟨i + 1, hlt, by show n - (i + 1) < n - i; omega, ⟨rfl, by show some _ = some _; rw [show k + (i : Int) + 1 = k + ((i + 1 : Nat) : Int) by omega], rfl, trivial⟩, trivial, trivial, Ext.refl _⟩
  · have hie : i = n := by have := of_decide_eq_false h; omega
    subst hie
    repeat (first | refine jC ?_ | refine jN ?_ | refine jS ?_ | refine jR ?_ | refine jT ?_ | refine jB ?_ | refine jX rfl ?_ | refine jY rfl ?_ | refine jK ?_ | refine jD ?_ | refine jE ?_)
    exact EndV.val rfl (Ext.refl _)

theorem Wr1.lt {w : World} {v : Value} {n g : Nat} (h : Wr1 w v n g) (h0 : 0 < n) : g < w.heap.size := by
  obtain ⟨ad, cap, rfl, _, _, h4⟩ := h
  obtain ⟨o, _, hm⟩ := h4 h0
  rcases hm.lt (l := List.replicate n undef) (by simp) with h | h
  · simp at h; omega
  · exact h
theorem Wr1.exc {S : Nat → Prop} {w w' : World} {v : Value} {n g : Nat} (h : Wr1 w v n g) (hX : ExcP S w w') (hS : 0 < n → ¬ S g) : Wr1 w' v n g := by
  rcases Nat.eq_zero_or_pos n with rfl | h0
  · obtain ⟨ad, cap, e, h1, h2, _⟩ := h
    exact ⟨ad, cap, e, h1, h2, fun h0 => absurd h0 (by omega)⟩
  · have := h.lt h0
    exact h.agree (lo := g) (hi := g + 1) (hX.agree (by omega) fun j h1 h2 => by rw [show j = g by omega]; exact hS h0) (fun _ => by omega)
theorem row1_exc {S : Nat → Prop} {w w' : World} {v : Value} {xs : List Value} {n g : Nat} (hR : Row1 w v xs) (hl : xs.length = n) (h : Wr1 w v n g) (hX : ExcP S w w') (hS : 0 < n → ¬ S g) : Row1 w' v xs := by
  rcases Nat.eq_zero_or_pos n with rfl | h0
  · obtain ⟨ad, cap, e, h1, h2, _⟩ := hR
    exact ⟨ad, cap, e, h1, h2, fun h0 => absurd h0 (by omega)⟩
  · have := h.lt h0
    exact hR.agree (lo := g) (hi := g + 1) (h.inB fun _ => by omega) (hX.agree (by omega) fun j h1 h2 => by rw [show j = g by omega]; exact hS h0)
theorem Pcs.exc {S : Nat → Prop} {lo hi : Nat} {w w' : World} {ts : List Nd} {blk : Nat → Nat} {nv kv : Nat → Value} (h : Pcs lo hi w ts blk nv kv) (hX : ExcP S w w') (hS : ∀ p, 0 < cnt ts p → ¬ S (blk p)) : Pcs lo hi w' ts blk nv kv := by
  refine ⟨fun i n hi' => ?_, h.rng, h.ne⟩
  obtain ⟨⟨h1, h2⟩, h3, h4⟩ := h.nd i n hi'
  have s1 := hS (2 * i)
  have s2 := hS (2 * i + 1)
  rw [cnt_names hi'] at s1
  rw [cnt_kids hi'] at s2
  exact ⟨⟨row1_exc h1 (by simp) h3 hX s1, row1_exc h2 (by simp) h4 hX s2⟩, h3.exc hX s1, h4.exc hX s2⟩
theorem cnt_set {ts : List Nd} {i : Nat} {n n' : Nd} (hi : ts[i]? = some n) (h1 : n'.names.length = n.names.length) (h2 : n'.kids.length = n.kids.length) (p : Nat) : cnt (ts.set i n') p = cnt ts p := by
  unfold cnt
  rw [List.getElem?_set]
  by_cases h : i = p / 2
  · subst h
    have hlt := (List.getElem?_eq_some_iff.1 hi).1
    rw [if_pos rfl, if_pos hlt, hi]
    simp [h1, h2]
  · rw [if_neg h]
/-- One node turns. -/
theorem Pcs.set {S : Nat → Prop} {lo hi : Nat} {w w' : World} {ts : List Nd} {blk : Nat → Nat} {nv kv : Nat → Value} (h : Pcs lo hi w ts blk nv kv) {i : Nat} {n n' : Nd} (hi' : ts[i]? = some n) (h1 : n'.names.length = n.names.length) (h2 : n'.kids.length = n.kids.length)
    (hX : ExcP S w w') (hS : ∀ p, 0 < cnt ts p → p / 2 ≠ i → ¬ S (blk p)) (hN : NdIn w' n' (nv i) (kv i)) (hW1 : Wr1 w' (nv i) n'.names.length (blk (2 * i))) (hW2 : Wr1 w' (kv i) n'.kids.length (blk (2 * i + 1))) : Pcs lo hi w' (ts.set i n') blk nv kv := by
  refine ⟨fun j m hj => ?_, fun p hp => h.rng p (by rwa [cnt_set hi' h1 h2] at hp), fun p q hpq hp hq => h.ne p q hpq (by rwa [cnt_set hi' h1 h2] at hp) (by rwa [cnt_set hi' h1 h2] at hq)⟩
  rw [List.getElem?_set] at hj
  by_cases hij : i = j
  · subst hij
    rw [if_pos rfl, if_pos (List.getElem?_eq_some_iff.1 hi').1] at hj
    cases hj
    exact ⟨hN, hW1, hW2⟩
  · rw [if_neg hij] at hj
    obtain ⟨⟨r1, r2⟩, h3, h4⟩ := h.nd j m hj
    have s1 := hS (2 * j)
    have s2 := hS (2 * j + 1)
    rw [cnt_names hj] at s1
    rw [cnt_kids hj] at s2
    exact ⟨⟨row1_exc r1 (by simp) h3 hX fun h0 => s1 h0 (by omega), row1_exc r2 (by simp) h4 hX fun h0 => s2 h0 (by omega)⟩, h3.exc hX fun h0 => s1 h0 (by omega), h4.exc hX fun h0 => s2 h0 (by omega)⟩
/-- One cell is set. -/
theorem Vc.CellsAt.setAt {w : World} {b o c : Nat} {l : List Value} {x : Value} (h : CellsAt w b o l) (hm : MutN w b (o + c) 1) (hk : c < l.length) : CellsAt (setL w b (o + c) [x]) b o (l.set c x) := by
  refine CellsAt.mk fun i v hi => ?_
  rw [List.getElem?_set] at hi
  split at hi
  · rename_i hik
    subst hik
    try rw [if_pos hk] at hi
    cases hi
    exact (CellsAt.setL_in (l := [x]) hm).out 0 x rfl
  · rename_i hik
    rw [Go.Proofs.YtlnlpholhnbifaaDoor.Vc.setL_out _ _ _ (by simp; omega)]
    exact h.out i v hi

/-- A node that is marked. -/
def Nd.mark (n : Nd) (k : Int) : Nd := ⟨decide (k % 3 = 0), k + 1, k + 1 + 1, k + 1 + 1 + 1, markT (k + 1 + 1 + 1 + 1), mkS (k + 1 + 1 + 1 + 1 + 1) n.names.length, mkI (k + 1 + 1 + 1 + 1 + 1 + n.names.length) n.kids.length⟩
def Nd.cnt (n : Nd) : Nat := 5 + n.names.length + n.kids.length
def markNds : List Nd → Int → List Nd
  | [], _ => []
  | n :: r, k => n.mark k :: markNds r (k + n.cnt)
def cntNds : List Nd → Nat
  | [] => 0
  | n :: r => n.cnt + cntNds r
theorem cntNds_append (a b : List Nd) : cntNds (a ++ b) = cntNds a + cntNds b := by
  induction a with
  | nil => simp [cntNds]
  | cons n r ih => simp [cntNds, ih]; omega
theorem cntNds_take_succ {ts : List Nd} {i : Nat} {n : Nd} (h : ts[i]? = some n) : cntNds (ts.take (i + 1)) = cntNds (ts.take i) + n.cnt := by
  obtain ⟨h1, rfl⟩ := List.getElem?_eq_some_iff.1 h
  rw [List.take_succ_eq_append_getElem h1, cntNds_append]; simp [cntNds]
theorem cntNds_take_le (ts : List Nd) (i : Nat) : cntNds (ts.take i) ≤ cntNds ts := by
  have := cntNds_append (ts.take i) (ts.drop i)
  rw [List.take_append_drop] at this
  omega
@[simp] theorem markNds_length (ts : List Nd) : ∀ k : Int, (markNds ts k).length = ts.length := by
  induction ts with
  | nil => intro k; rfl
  | cons n r ih => intro k; simp [markNds, ih]
theorem markNds_append (a : List Nd) : ∀ (b : List Nd) (k : Int), markNds (a ++ b) k = markNds a k ++ markNds b (k + cntNds a) := by
  induction a with
  | nil => intro b k; simp [markNds, cntNds]
  | cons n r ih => intro b k; simp [markNds, cntNds, ih]; congr 1; omega
theorem markNds_get {ts : List Nd} {i : Nat} {n : Nd} (h : ts[i]? = some n) (k : Int) : (markNds ts k)[i]? = some (n.mark (k + cntNds (ts.take i))) := by
  obtain ⟨h1, rfl⟩ := List.getElem?_eq_some_iff.1 h
  have e : ts = ts.take i ++ (ts[i] :: ts.drop (i + 1)) := by rw [← List.drop_eq_getElem_cons h1, List.take_append_drop]
  have := markNds_append (ts.take i) (ts[i] :: ts.drop (i + 1)) k
  rw [← e] at this
  rw [this, List.getElem?_append_right (by simp; omega), markNds_length, List.length_take, Nat.min_eq_left (by omega), Nat.sub_self]
  rfl
/-- Some nodes are marked. -/
def mixed (ts : List Nd) (k : Int) (i : Nat) : List Nd := markNds (ts.take i) k ++ ts.drop i
theorem mixed_get {ts : List Nd} {i : Nat} {n : Nd} (h : ts[i]? = some n) (k : Int) : (mixed ts k i)[i]? = some n := by
  have h1 := (List.getElem?_eq_some_iff.1 h).1
  unfold mixed
  rw [List.getElem?_append_right (by simp; omega), markNds_length, List.length_take, Nat.min_eq_left (by omega), Nat.sub_self, List.getElem?_drop]
  exact h
theorem mixed_succ {ts : List Nd} {i : Nat} {n : Nd} (h : ts[i]? = some n) (k : Int) : mixed ts k (i + 1) = (mixed ts k i).set i (n.mark (k + cntNds (ts.take i))) := by
  obtain ⟨h1, rfl⟩ := List.getElem?_eq_some_iff.1 h
  unfold mixed
  rw [List.take_succ_eq_append_getElem h1, markNds_append, List.drop_eq_getElem_cons h1, List.set_append, if_neg (by simp; omega), markNds_length, List.length_take, Nat.min_eq_left (Nat.le_of_lt h1), Nat.sub_self, List.append_assoc]
  rfl
theorem mixed_zero (ts : List Nd) (k : Int) : mixed ts k 0 = ts := by simp [mixed, markNds]
theorem mixed_all (ts : List Nd) (k : Int) : mixed ts k ts.length = markNds ts k := by simp [mixed]

theorem cnt_mixed {ts : List Nd} (k : Int) : ∀ i, i ≤ ts.length → ∀ p, cnt (mixed ts k i) p = cnt ts p := by
  intro i
  induction i with
  | zero => intro _ p; rw [mixed_zero]
  | succ i ih =>
    intro hi p
    have hu : ts[i]? = some ts[i] := List.getElem?_eq_getElem (by omega)
    rw [mixed_succ hu, cnt_set (mixed_get hu k) (by simp [Nd.mark]) (by simp [Nd.mark])]
    exact ih (by omega) p

theorem markStringS_p (v : Value) (n g : Nat) (k : Int) (w : World) (hw : Wr1 w v n g) (h0 : 0 ≤ k) (h1 : k + n ≤ 17592186044416) :
    Calls Tryd.prog 12 #[v, .int .i64 k] w fun e w' => e = .returned (.int .i64 (k + n)) ∧ ExcP (fun j => 0 < n ∧ j = g) w w' ∧ Row1 w' v (strs (mkS k n)) ∧ Wr1 w' v n g := by
  rcases Nat.eq_zero_or_pos n with rfl | hn
  · exact (markStringS_vc v 0 w.heap.size k w (hw.none _) h0 h1).mono fun e w' ⟨a, b, c, d⟩ => ⟨a, ⟨b.os, b.tape, b.output, b.size, fun j hj _ => b.block j hj (by omega)⟩, c, d.none _⟩
  · exact (markStringS_vc v n g k w hw h0 h1).mono fun e w' ⟨a, b, c, d⟩ => ⟨a, ⟨b.os, b.tape, b.output, b.size, fun j hj hS => b.block j hj (fun e => hS ⟨hn, e⟩)⟩, c, d⟩
end Go.Proofs.YtlnlpholhnbifaaDoor
