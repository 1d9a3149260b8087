/-
  Regions that draw their order and do more than read: what only reads comes first wherever it can; of the rest every order is walked.
  Conditions: none.
-/
import Derived.Test.YtbnjjpgacemicaaGreatDoorVcU
namespace Go.Proofs.YtbnjjpgacemicaaGreatDoor.Vc
open Go.RowKit

/-- What an operation does: it moves a value; it reads; it does more; it ends what was known. -/
inductive Kd where
  | mv | rd | ef | br
def Kd.still : Kd → Bool
  | .mv => true
  | .rd => true
  | _ => false
/-- The orders: done; an operation that reads; one of those that do more, and the others that may come in its place. -/
inductive Tr where
  | done | st (i : Nat) (t : Tr) | ef (i : Nat) (t m : Tr)
def Tr.alts : Tr → List Nat
  | .ef i _ m => i :: m.alts
  | _ => []

section
variable {P : Program} {ops : Array Oper} {kd : Nat → Kd} {Q : Act → World → Prop}

def NoExit : Exit → Act → World → Prop := fun _ _ _ => False
def cls (k : Kd) (D : World → Prop) : World → Prop := match k with
  | .mv => fun _ => True
  | _ => D
def StillAt (P : Program) (o : Oper) (a : Act) (D : World → Prop) (v : Value) : Prop := ∀ w, D w → (execOp a.eval o).run P w = .ok (.value v) w

/-- Operation i comes up. -/
def eOp (P : Program) (ops : Array Oper) (kd : Nat → Kd) (i : Nat) (D : World → Prop) (K : (World → Prop) → Act → World → Prop) (a : Act) (w : World) : Prop :=
  match ops[i]? with
  | none => K D a w
  | some o => if Region.wanted o (yielded ops a.tmps) then (match kd i with
      | .ef => o.wp P a w (fun a' w' => D w' ∧ K D a' w') NoExit
      | .br => o.wp P a w (fun a' w' => ∃ D' : World → Prop, D' w' ∧ K D' a' w') NoExit
      | k => ∃ v, StillAt P o a (cls k D) v ∧ K D (a.put o.dst v) w) else K D (a.put o.dst undef) w

theorem eOp_mono {i : Nat} {D : World → Prop} {K K' : (World → Prop) → Act → World → Prop} {a : Act} {w : World} (hD : D w) (h : ∀ D a w, D w → K D a w → K' D a w) (hh : eOp P ops kd i D K a w) : eOp P ops kd i D K' a w := by
  unfold eOp at *
  split
  · rename_i ho; simp only [ho] at hh; exact h _ _ _ hD hh
  · rename_i o ho
    simp only [ho] at hh
    split
    · rename_i hw
      simp only [hw, if_true] at hh
      split
      · rename_i hk
        simp only [hk] at hh
        exact Oper.wp_mono (fun a w ⟨h1, h2⟩ => ⟨h1, h _ _ _ h1 h2⟩) hh
      · rename_i hk
        simp only [hk] at hh
        exact Oper.wp_mono (fun a w ⟨D', h1, h2⟩ => ⟨D', h1, h _ _ _ h1 h2⟩) hh
      · rename_i k h1 h2
        cases hk : kd i with
        | ef => exact absurd hk h1
        | br => exact absurd hk h2
        | mv => simp only [hk] at hh; obtain ⟨v, h3, h4⟩ := hh; exact ⟨v, h3, h _ _ _ hD h4⟩
        | rd => simp only [hk] at hh; obtain ⟨v, h3, h4⟩ := hh; exact ⟨v, h3, h _ _ _ hD h4⟩
    · rename_i hw
      simp only [hw] at hh
      exact h _ _ _ hD hh

/-- Whatever order is picked from here on. -/
def wpAnyE (P : Program) (ops : Array Oper) (kd : Nat → Kd) (Q : Act → World → Prop) : Nat → Array Bool → (World → Prop) → Act → World → Prop
  | 0, L, _, a, w => Region.ready .any ops L = [] ∧ Q a w
  | f + 1, L, D, a, w => (Region.ready .any ops L = [] → Q a w) ∧ ∀ i ∈ Region.ready .any ops L, eOp P ops kd i D (wpAnyE P ops kd Q f (L.setIfInBounds i true)) a w

theorem wp_noExit {o : Oper} {a : Act} {w : World} {K K' : Act → World → Prop} {Q' : Exit → Act → World → Prop} (h : ∀ a w, K a w → K' a w) (hh : o.wp P a w K NoExit) : o.wp P a w K' Q' := by
  unfold Oper.wp at *
  generalize (execOp a.eval o).run P w = r at *
  cases r with
  | ok n w' =>
    cases n <;> simp only [Oper.upon] at hh ⊢ <;>
      first
        | exact h _ _ hh
        | exact Calls.mono hh (fun e w'' he => by
            cases e with
            | returned v => exact h _ _ he
            | panicked c => exact he.elim
            | outgrown => obtain ⟨_, _, he⟩ := he; exact he.elim)
        | exact Rows.mono hh (fun _ _ he => h _ _ he)
  | halt x w' => cases x <;> simp only [Oper.upon] at hh ⊢ <;> exact hh.elim

theorem wpOp_of_eOp {Q' : Exit → Act → World → Prop} {i : Nat} {D : World → Prop} {K : (World → Prop) → Act → World → Prop} {K' : Act → World → Prop} {a : Act} {w : World} (hD : D w) (h : ∀ D a w, D w → K D a w → K' a w) (hh : eOp P ops kd i D K a w) : wpOp P ops Q' i K' a w := by
  unfold eOp at hh
  unfold wpOp
  split
  · rename_i ho; simp only [ho] at hh; exact h _ _ _ hD hh
  · rename_i o ho
    simp only [ho] at hh
    split
    · rename_i hw
      simp only [hw, if_true] at hh
      refine .inl ?_
      have still : ∀ k, (∃ v, StillAt P o a (cls k D) v ∧ K D (a.put o.dst v) w) → o.wp P a w K' Q' := by
        rintro k ⟨v, h1, h2⟩
        have h3 := h1 w (by cases k <;> first | exact hD | trivial)
        unfold Oper.wp
        rw [h3]
        exact h _ _ _ hD h2
      cases hk : kd i with
      | ef => simp only [hk] at hh; exact wp_noExit (fun a w ⟨h1, h2⟩ => h _ _ _ h1 h2) hh
      | br => simp only [hk] at hh; exact wp_noExit (fun a w ⟨D', h1, h2⟩ => h _ _ _ h1 h2) hh
      | mv => simp only [hk] at hh; exact still _ hh
      | rd => simp only [hk] at hh; exact still _ hh
    · rename_i hw
      simp only [hw] at hh
      exact h _ _ _ hD hh

theorem wpAny_of_E {Q' : Exit → Act → World → Prop} (hQ : ∀ a w, Q a w → Q' .normal a w) : ∀ (f : Nat) (L : Array Bool) (D : World → Prop) (a : Act) (w : World), D w →
    wpAnyE P ops kd Q f L D a w → wpAny P .any ops Q' f L a w
  | 0, _, _, _, _, _, h => ⟨h.1, hQ _ _ h.2⟩
  | f + 1, _, _, _, _, hD, h => ⟨fun h0 => hQ _ _ (h.1 h0), fun i hi => wpOp_of_eOp hD (fun D' a' w' hD' hK => wpAny_of_E hQ f _ D' a' w' hD' hK) (h.2 i hi)⟩

/-- In state a, in every world of the class, operation o leaves v in its slot, and the world as it was. -/
def Yd (P : Program) (ops : Array Oper) (D : World → Prop) (o : Oper) (v : Value) (a : Act) : Prop :=
  (Region.wanted o (yielded ops a.tmps) = true ∧ StillAt P o a D v) ∨ (Region.wanted o (yielded ops a.tmps) = false ∧ v = undef)
theorem Yd.same {D : World → Prop} {o : Oper} {v : Value} {a a' : Act} (hy : Yd P ops D o v a) (he : execOp a'.eval o = execOp a.eval o)
    (hw : Region.wanted o (yielded ops a'.tmps) = Region.wanted o (yielded ops a.tmps)) : Yd P ops D o v a' := by
  unfold Yd StillAt at *
  rw [he, hw]
  exact hy
theorem Yd.eOp {D : World → Prop} {i : Nat} {o : Oper} {v : Value} {a : Act} {w : World} (hi : ops[i]? = some o) (hk : (kd i).still = true) (hy : Yd P ops (cls (kd i) D) o v a) {K : (World → Prop) → Act → World → Prop} (h : K D (a.put o.dst v) w) : eOp P ops kd i D K a w := by
  unfold Vc.eOp
  simp only [hi]
  rcases hy with ⟨hw, hv⟩ | ⟨hw, rfl⟩
  · simp only [hw, if_true]
    cases hk' : kd i with
    | ef => rw [hk'] at hk; cases hk
    | br => rw [hk'] at hk; cases hk
    | mv => exact ⟨v, by rw [hk'] at hv; exact hv, h⟩
    | rd => exact ⟨v, by rw [hk'] at hv; exact hv, h⟩
  · simp only [hw, Bool.false_eq_true, if_false]; exact h
theorem yd_of_eOp {D : World → Prop} {i : Nat} {o : Oper} {a : Act} {w : World} {K : (World → Prop) → Act → World → Prop} (hi : ops[i]? = some o) (hk : (kd i).still = true) (h : eOp P ops kd i D K a w) : ∃ v, Yd P ops (cls (kd i) D) o v a ∧ K D (a.put o.dst v) w := by
  unfold Vc.eOp at h
  simp only [hi] at h
  by_cases hw : Region.wanted o (yielded ops a.tmps) = true
  · simp only [hw, if_true] at h
    cases hk' : kd i with
    | ef => rw [hk'] at hk; cases hk
    | br => rw [hk'] at hk; cases hk
    | mv => simp only [hk'] at h; obtain ⟨v, h1, h2⟩ := h; exact ⟨v, .inl ⟨hw, h1⟩, h2⟩
    | rd => simp only [hk'] at h; obtain ⟨v, h1, h2⟩ := h; exact ⟨v, .inl ⟨hw, h1⟩, h2⟩
  · simp only [hw] at h
    exact ⟨undef, .inr ⟨by simpa using hw, rfl⟩, h⟩

/-- An operation that does more, carried out ahead of one that is apart from it. -/
theorem wp_put {oi oj : Oper} {v : Value} (hap : oi.apart ops oj = true) (hsi : ∀ cs b, oi.op ≠ .select cs b) (hsj : ∀ cs b, oj.op ≠ .select cs b)
    {Y : Act → Prop} {K : Act → World → Prop} {a : Act} {w : World}
    (hY : ∀ a', execOp a'.eval oi = execOp a.eval oi → Region.wanted oi (yielded ops a'.tmps) = Region.wanted oi (yielded ops a.tmps) → Y a')
    (h : oj.wp P (a.put oi.dst v) w K NoExit) : oj.wp P a w (fun a' w' => Y a' ∧ K (a'.put oi.dst v) w') NoExit := by
  obtain ⟨h1, h2, h3⟩ := Oper.apart_spec hap
  have keep : ∀ u, Y (a.put oj.dst u) := fun u => hY _ (execOp_put oi hsi a oj.dst u h3) (wanted_put oi a oj.dst u h3)
  have keepD : ∀ d u, Y ({ a with defers := d :: a.defers }.put oj.dst u) := fun d u => hY _
    ((execOp_put oi hsi { a with defers := d :: a.defers } oj.dst u h3).trans rfl) ((wanted_put oi { a with defers := d :: a.defers } oj.dst u h3).trans rfl)
  unfold Oper.wp at *
  rw [execOp_put oj hsj a oi.dst v h1] at h
  generalize (execOp a.eval oj).run P w = r at *
  cases r with
  | ok n w' =>
    cases n <;> simp only [Oper.upon] at h ⊢
    case value u => exact ⟨keep u, by rw [← Act.put_comm a v u h2]; exact h⟩
    case skip => exact ⟨keep _, by rw [← Act.put_comm a v undef h2]; exact h⟩
    case defer d => exact ⟨keepD _ _, by rw [Act.put_defers] at h; rw [← Act.put_comm _ v undef h2]; exact h⟩
    case enter f args =>
      refine h.mono fun e w'' he => ?_
      cases e with
      | returned u => exact ⟨keep u, by rw [← Act.put_comm a v u h2]; exact he⟩
      | panicked c => exact he
      | outgrown => exact he
    case row r args => exact Rows.mono h fun u w'' he => ⟨keep u, by rw [← Act.put_comm a v u h2]; exact he⟩
  | halt x w' => cases x <;> simp only [Oper.upon] at h ⊢ <;> exact h

theorem eOp_put {i j : Nat} {oi oj : Oper} {v : Value} (hj : ops[j]? = some oj) (hap : oi.apart ops oj = true) (hsi : ∀ cs b, oi.op ≠ .select cs b) (hsj : ∀ cs b, oj.op ≠ .select cs b)
    (hbr : kd j = .br → kd i = .mv) {D : World → Prop} {K : (World → Prop) → Act → World → Prop} {a : Act} {w : World}
    (hy : Yd P ops (cls (kd i) D) oi v a) (h : eOp P ops kd j D K (a.put oi.dst v) w) :
    eOp P ops kd j D (fun D' a' w' => Yd P ops (cls (kd i) D') oi v a' ∧ K D' (a'.put oi.dst v) w') a w := by
  obtain ⟨h1, h2, h3⟩ := Oper.apart_spec hap
  have keep : ∀ (a : Act), Yd P ops (cls (kd i) D) oi v a → ∀ u, Yd P ops (cls (kd i) D) oi v (a.put oj.dst u) := fun a hy u =>
    hy.same (execOp_put oi hsi a oj.dst u h3) (wanted_put oi a oj.dst u h3)
  unfold Vc.eOp at *
  simp only [hj] at *
  rw [wanted_put oj a oi.dst v h1] at h
  split
  · rename_i hw
    simp only [hw, if_true] at h
    have still : ∀ k, (∃ u, StillAt P oj (a.put oi.dst v) (cls k D) u ∧ K D ((a.put oi.dst v).put oj.dst u) w) → ∃ u, StillAt P oj a (cls k D) u ∧ Yd P ops (cls (kd i) D) oi v (a.put oj.dst u) ∧ K D ((a.put oj.dst u).put oi.dst v) w := by
      rintro k ⟨u, h4, h5⟩
      refine ⟨u, fun w' hw' => ?_, keep a hy u, by rw [← Act.put_comm a v u h2]; exact h5⟩
      have := h4 w' hw'
      rwa [execOp_put oj hsj a oi.dst v h1] at this
    cases hk : kd j with
    | ef =>
      simp only [hk] at h ⊢
      exact Oper.wp_mono (fun a' w' ⟨hy', hd, hK⟩ => ⟨hd, hy', hK⟩) (wp_put hap hsi hsj (Y := Yd P ops (cls (kd i) D) oi v) (fun a' he hw' => hy.same he hw') h)
    | br =>
      simp only [hk] at h ⊢
      have hmv := hbr hk
      have hcls : ∀ D', cls (kd i) D' = cls (kd i) D := fun D' => by rw [hmv]; rfl
      exact Oper.wp_mono (fun a' w' ⟨hy', D', hd, hK⟩ => ⟨D', hd, by rw [hcls]; exact hy', hK⟩) (wp_put hap hsi hsj (Y := Yd P ops (cls (kd i) D) oi v) (fun a' he hw' => hy.same he hw') h)
    | mv => simp only [hk] at h ⊢; exact still _ h
    | rd => simp only [hk] at h ⊢; exact still _ h
  · rename_i hw
    simp only [hw] at h
    exact ⟨keep a hy _, by rw [← Act.put_comm a v undef h2]; exact h⟩

/-- What is listed brings what it waits for. -/
def Closed (ops : Array Oper) (L : Array Bool) : Prop := ∀ k o, ops[k]? = some o → L.getD k false = true → ∀ e ∈ o.after, Region.binds .any e = true → L.getD e.on false = true
theorem getD_both {L : Array Bool} {i : Nat} (h1 : L.getD i true = false) (h2 : L.getD i false = true) : False := by
  rcases Nat.lt_or_ge i L.size with h' | h'
  · simp [h'] at h1 h2; rw [h1] at h2; cases h2
  · simp [Array.getElem?_eq_none h'] at h2
theorem Closed.set {L : Array Bool} (h : Closed ops L) {i : Nat} (hi : i ∈ Region.ready .any ops L) : Closed ops (L.setIfInBounds i true) := by
  obtain ⟨_, oi, hoi, hall⟩ := mem_ready.1 hi
  intro k o hk hl e he hb
  by_cases hik : i = k
  · subst hik
    rw [hoi] at hk; cases hk
    exact getD_set_true (hall e he hb)
  · rw [getD_set_ne false hik] at hl
    exact getD_set_true (h k o hk hl e he hb)
def reach (ops : Array Oper) : Nat → Nat → Nat → Bool
  | 0, _, _ => false
  | f + 1, j, s => match ops[j]? with
    | none => false
    | some o => o.after.any (fun e => Region.binds .any e && e.on == s) || o.after.any fun e => Region.binds .any e && reach ops f e.on s
theorem reach_listed {L : Array Bool} (hC : Closed ops L) (s : Nat) : ∀ (f j : Nat) (o : Oper), ops[j]? = some o → (∀ e ∈ o.after, Region.binds .any e = true → L.getD e.on false = true) → reach ops f j s = true → L.getD s false = true
  | 0, _, _, _, _, h => by cases h
  | f + 1, j, o, hj, hall, h => by
    unfold reach at h
    simp only [hj, Bool.or_eq_true] at h
    rcases h with h | h
    · obtain ⟨e, he, h⟩ := Array.any_eq_true'.1 h
      simp only [Bool.and_eq_true, beq_iff_eq] at h
      rw [← h.2]; exact hall e he h.1
    · obtain ⟨e, he, h⟩ := Array.any_eq_true'.1 h
      simp only [Bool.and_eq_true] at h
      cases ho : ops[e.on]? with
      | none => cases f <;> simp [reach, ho] at h
      | some o' => exact reach_listed hC s f e.on o' ho (fun e' he' hb => hC e.on o' ho (hall e he h.1) e' he' hb) h.2

/-- An operation that only reads, and may come up now, may be taken first. -/
theorem wpAnyE_first {i : Nat} {oi : Oper} {v : Value} {rf : Nat} (hi : ops[i]? = some oi) (hk : (kd i).still = true) (hsel : ∀ (j : Nat) (o : Oper) cs b, ops[j]? = some o → o.op ≠ .select cs b) :
    ∀ (f : Nat) (L : Array Bool) (D : World → Prop) (a : Act) (w : World), D w → Closed ops L →
      (∀ j oj, ops[j]? = some oj → j ≠ i → L.getD j true = false → (∀ e ∈ oj.after, Region.binds .any e = true → e.on ≠ i) → oi.apart ops oj = true) →
      (∀ j oj, ops[j]? = some oj → L.getD j true = false → kd j = .br → kd i = .mv ∨ reach ops rf j i = true) →
      i ∈ Region.ready .any ops L → Yd P ops (cls (kd i) D) oi v a →
      wpAnyE P ops kd Q f (L.setIfInBounds i true) D (a.put oi.dst v) w → wpAnyE P ops kd Q (f + 1) L D a w := by
  intro f
  induction f with
  | zero =>
    intro L D a w hD hC _ _ hr hy H
    refine ⟨fun h => (by rw [h] at hr; cases hr), fun j hj => ?_⟩
    by_cases hji : j = i
    · subst hji; exact hy.eOp hi hk H
    · have := ready_mono hj hji
      rw [H.1] at this
      cases this
  | succ f ih =>
    intro L D a w hD hC hfree hb hr hy H
    refine ⟨fun h => (by rw [h] at hr; cases hr), fun j hj => ?_⟩
    by_cases hji : j = i
    · subst hji; exact hy.eOp hi hk H
    · have h1 := H.2 j (ready_mono hj hji)
      obtain ⟨hjun, oj, hoj, hall⟩ := mem_ready.1 hj
      have h0 := (mem_ready.1 hr).1
      have hnot : ∀ e ∈ oj.after, Region.binds .any e = true → e.on ≠ i := fun e he hb' heq => by
        have h1 := hall e he hb'
        rw [heq] at h1
        exact getD_both h0 h1
      have hbr : kd j = .br → kd i = .mv := fun hkj => by
        rcases hb j oj hoj hjun hkj with h | h
        · exact h
        · exact (getD_both h0 (reach_listed hC i rf j oj hoj hall h)).elim
      have h2 := eOp_put hoj (hfree j oj hoj hji hjun hnot) (fun cs b => hsel i oi cs b hi) (fun cs b => hsel j oj cs b hoj) hbr hy h1
      have un : ∀ k, (L.setIfInBounds j true).getD k true = false → L.getD k true = false := fun k hun => by
        by_cases hjk : j = k
        · subst hjk; exact hjun
        · rw [getD_set_ne true hjk] at hun; exact hun
      refine eOp_mono hD (fun D' a' w' hD' h3 => ih (L.setIfInBounds j true) D' a' w' hD' (hC.set hj) (fun k ok hk hki hun hno => hfree k ok hk hki (un k hun) hno) (fun k ok hk hun hkk => hb k ok hk (un k hun) hkk) (ready_mono hr (Ne.symm hji)) h3.1 ?_) h2
      rw [Array.setIfInBounds_comm _ _ hji]
      exact h3.2

/-! ### The orders that are walked -/

def brOk (ops : Array Oper) (kd : Nat → Kd) (rf : Nat) (L : Array Bool) (i : Nat) : Bool := match kd i with
  | .mv => true
  | _ => (List.range ops.size).all fun j => L.getD j true || (match kd j with | .br => false | _ => true) || reach ops rf j i
def okT (ops : Array Oper) (kd : Nat → Kd) (rf : Nat) : Tr → Bool → Nat → Array Bool → Bool
  | .done, top, _, L => !top || (Region.ready .any ops L).isEmpty
  | .st i t, top, f, L => top && (kd i).still && (Region.ready .any ops L).contains i && Region.free .any ops L i && brOk ops kd rf L i && (match f with
      | 0 => false
      | f + 1 => okT ops kd rf t true f (L.setIfInBounds i true))
  | .ef i t m, top, f, L => (!top || (Region.ready .any ops L).all fun j => (i :: m.alts).contains j) && !(kd i).still && (Region.ready .any ops L).contains i && (match f with
      | 0 => false
      | f' + 1 => okT ops kd rf t true f' (L.setIfInBounds i true)) && okT ops kd rf m false f L

/-- What is asked along the orders. -/
def wpT (P : Program) (ops : Array Oper) (kd : Nat → Kd) (Q : Act → World → Prop) : Tr → (World → Prop) → Act → World → Prop
  | .done, _, a, w => Q a w
  | .st i t, D, a, w => eOp P ops kd i D (wpT P ops kd Q t) a w
  | .ef i t m, D, a, w => eOp P ops kd i D (wpT P ops kd Q t) a w ∧ (m = .done ∨ wpT P ops kd Q m D a w)

theorem wpAnyE_of_T {rf : Nat} (hsel : Region.noSelect ops = true) : ∀ (t : Tr) (f : Nat) (L : Array Bool) (D : World → Prop) (a : Act) (w : World), D w → Closed ops L →
    (okT ops kd rf t true f L = true → wpT P ops kd Q t D a w → wpAnyE P ops kd Q f L D a w) ∧
    (okT ops kd rf t false f L = true → (t = .done ∨ wpT P ops kd Q t D a w) → ∀ i ∈ t.alts, ∃ f', f = f' + 1 ∧ eOp P ops kd i D (wpAnyE P ops kd Q f' (L.setIfInBounds i true)) a w)
  | .done, f, L, D, a, w, _, _ => by
    refine ⟨fun h hq => ?_, fun _ _ i hi => by cases hi⟩
    have h0 : Region.ready .any ops L = [] := by simpa [okT] using h
    cases f with
    | zero => exact ⟨h0, hq⟩
    | succ f => exact ⟨fun _ => hq, fun i hi => by rw [h0] at hi; cases hi⟩
  | .st i t, f, L, D, a, w, hD, hC => by
    refine ⟨fun h hq => ?_, fun _ _ i hi => by cases hi⟩
    unfold okT at h
    simp only [Bool.and_eq_true, Bool.true_and] at h
    obtain ⟨⟨⟨⟨hk, hr⟩, hf⟩, hb⟩, h⟩ := h
    have hr' : i ∈ Region.ready .any ops L := by simpa using hr
    obtain ⟨_, oi, hoi, _⟩ := mem_ready.1 hr'
    cases f with
    | zero => cases h
    | succ f =>
      simp only at h
      obtain ⟨v, hy, hK⟩ := yd_of_eOp hoi hk hq
      refine wpAnyE_first (rf := rf) hoi hk (Region.noSelect_spec hsel) f L D a w hD hC (Region.free_spec hoi hf) (fun j oj hj hun hkj => ?_) hr' hy ((wpAnyE_of_T hsel t f _ D _ w hD (hC.set hr')).1 h hK)
      unfold brOk at hb
      split at hb
      · rename_i hmv; exact .inl hmv
      · have h2 := List.all_eq_true.1 hb j (List.mem_range.2 (Array.getElem?_eq_some_iff.1 hj).1)
        simp only [hun, hkj, Bool.false_or] at h2
        exact .inr h2
  | .ef i t m, f, L, D, a, w, hD, hC => by
    have chain : ∀ top, okT ops kd rf (.ef i t m) top f L = true → wpT P ops kd Q (.ef i t m) D a w → ∀ j ∈ Tr.alts (.ef i t m), ∃ f', f = f' + 1 ∧ eOp P ops kd j D (wpAnyE P ops kd Q f' (L.setIfInBounds j true)) a w := by
      intro top h hq j hj
      unfold okT at h
      simp only [Bool.and_eq_true] at h
      obtain ⟨⟨⟨⟨_, hk⟩, hr⟩, h⟩, hm⟩ := h
      obtain ⟨hq1, hq2⟩ := hq
      have hr' : i ∈ Region.ready .any ops L := by simpa using hr
      rcases List.mem_cons.1 hj with rfl | hj
      · cases f with
        | zero => cases h
        | succ f =>
          simp only at h
          exact ⟨f, rfl, eOp_mono hD (fun D' a' w' hD' hK => (wpAnyE_of_T hsel t f _ D' a' w' hD' (hC.set hr')).1 h hK) hq1⟩
      · exact (wpAnyE_of_T hsel m f L D a w hD hC).2 hm hq2 j hj
    refine ⟨fun h hq => ?_, fun h hq => ?_⟩
    · have hch := chain true h hq
      have hall : ∀ j ∈ Region.ready .any ops L, j ∈ Tr.alts (.ef i t m) := by
        intro j hj
        unfold okT at h
        simp only [Bool.and_eq_true] at h
        have := h.1.1.1.1
        simp only [Bool.not_true, Bool.false_or, List.all_eq_true] at this
        have := this j hj
        simpa [Tr.alts] using this
      obtain ⟨f', rfl, _⟩ := hch i (by simp [Tr.alts])
      have hne : Region.ready .any ops L ≠ [] := by
        unfold okT at h
        simp only [Bool.and_eq_true] at h
        intro h0
        rw [h0] at h
        simp at h
      refine ⟨fun h0 => absurd h0 hne, fun j hj => ?_⟩
      obtain ⟨f2, e, hx⟩ := hch j (hall j hj)
      cases e
      exact hx
    · rcases hq with hq | hq
      · cases hq
      · exact chain false h hq

theorem closed_start : Closed ops (Array.replicate ops.size false) := by
  intro k o _ h
  rw [Array.getD_eq_getD_getElem?, Array.getElem?_replicate] at h
  split at h <;> cases h
/-- **The region.** -/
theorem wp_region_tree {id : Nat} {Q' : Exit → Act → World → Prop} {a : Act} {w : World} {t : Tr} {D : World → Prop} (hm : P.follows .mixedOrders = true) (hs : Region.noSelect ops = true) (rf : Nat)
    (hok : okT ops kd rf t true ops.size (Array.replicate ops.size false) = true) (hD : D { w with drawn := w.drawn + 1 })
    (h : wpT P ops kd (fun a w => Q' .normal a w) t D a { w with drawn := w.drawn + 1 }) : (Code.region id ops true).wp P Q' a w :=
  wp_region_any hm (wpAny_of_E (Q := fun a w => Q' .normal a w) (fun _ _ h => h) _ _ D _ _ hD ((wpAnyE_of_T hs t _ _ D _ _ hD closed_start).1 hok h))
end

/-! ### With what is known -/

section
variable {P : Program} {C : Cx} {ops : List Oper} {kd : Nat → Kd}

/-- The orders of a region: what is to be known of the state. -/
def WpE (P : Program) (C : Cx) (ops : List Oper) (kd : Nat → Kd) (t : Tr) (D : World → Prop) (K : St → Prop) (st : St) : Prop :=
  ∀ (Q : Act → World → Prop), (∀ st a w, Sat C.n st a w → K st → Q a w) → ∀ (a : Act) (w : World), Sat C.n st a w → D w → wpT P ops.toArray kd Q t (fun w => D w ∧ OwnAt st.own w) a w
theorem WpE.done {D : World → Prop} {K : St → Prop} {st : St} (h : K st) : WpE P C ops kd .done D K st := fun _ hQ a w hS _ => hQ st a w hS h

def mvV (st : St) (o : Oper) (K : SV → Prop) : Prop := match o.guard with
  | none => match o.op with
    | .move x => onS (ev st x) K
    | .assign x => onS (ev st x) K
    | _ => False
  | some _ => False

theorem WpE.mv {i : Nat} {o : Oper} {t : Tr} {D : World → Prop} {K : St → Prop} {st : St} (hi : nth ops i = some o) (hk : kd i = .mv)
    (h : mvV st o fun s => putS C.n st o.dst s fun st => WpE P C ops kd t D K st) : WpE P C ops kd (.st i t) D K st := by
  intro Q hQ a w hS hD
  have hi' : ops.toArray[i]? = some o := by rw [nth_eq] at hi; simpa using hi
  unfold wpT eOp
  simp only [hi', hk]
  unfold mvV at h
  split at h
  · rename_i hg
    have hw : Region.wanted o (yielded ops.toArray a.tmps) = true := by simp [Region.wanted, hg]
    rw [if_pos hw]
    have fin : ∀ x, (∀ ρ, execOp ρ o = pure (.value (ρ x))) → onS (ev st x) (fun s => putS C.n st o.dst s fun st => WpE P C ops kd t D K st) → ∃ v, StillAt P o a (cls .mv fun w => D w ∧ OwnAt st.own w) v ∧ wpT P ops.toArray kd Q t (fun w => D w ∧ OwnAt st.own w) (a.put o.dst v) w := by
      intro x hx h
      obtain ⟨s, hs, h⟩ := onS_ok h
      obtain ⟨hok, hev⟩ : s.ok st.own ∧ a.eval x = den st.own s := ev_ok hS hs
      obtain ⟨st2, hS2, e1, e2, hK2⟩ := putS_same hS hok h
      refine ⟨den st.own s, fun w' _ => ?_, ?_⟩
      · rw [hx, hev]; rfl
      · have := hK2 Q hQ _ _ hS2 hD
        rwa [e1] at this
    split at h
    · rename_i x hx
      exact fin x (fun ρ => by unfold execOp; simp only [hx]) h
    · rename_i x hx
      exact fin x (fun ρ => by unfold execOp; simp only [hx]) h
    · exact h.elim
  · exact h.elim

theorem WpE.rd_of (hC : CxOk P C) {i : Nat} {o : Oper} {t : Tr} {A0 : World} {K : St → Prop} {E : List (Nat × SV)} {H : List OE} {A : World} (hi : nth ops i = some o) (hk : kd i = .rd)
    (hg : guardV ops ⟨E, H, A⟩ o.guard (fun st => match st with | ⟨E', H', A'⟩ => opV C.T ⟨E', H', A0⟩ o.op fun s => putS C.n ⟨E', H', A'⟩ o.dst s fun st => WpE P C ops kd t (Ext A0) K st) (fun st => putS C.n st o.dst (.v undef) fun st => WpE P C ops kd t (Ext A0) K st)) :
    WpE P C ops kd (.st i t) (Ext A0) K ⟨E, H, A⟩ := by
  intro Q hQ a w hS hD
  have hi' : ops.toArray[i]? = some o := by rw [nth_eq] at hi; simpa using hi
  unfold wpT eOp
  simp only [hi', hk]
  obtain ⟨⟨E1, H1, A1⟩, hS1, e1, e2, ⟨hw, h⟩ | ⟨hw, h⟩⟩ := guardV_ok hS hg
  · rw [if_pos hw]
    simp only at h e1 e2
    subst e1 e2
    obtain ⟨s, h1, h2⟩ := opV_ok hC.1 h
    have hS0 : ∀ w', Ext A0 w' → OwnAt H1 w' → Sat C.n ⟨E1, H1, A0⟩ a w' := fun w' hx ho => ⟨hS1.1, hS1.2.1, hS1.2.2.1, hx, ho⟩
    obtain ⟨st2, hS2, e3, e4, hK2⟩ := putS_same hS1 (h2 _ a w (hS0 w hD hS1.2.2.2.2)).1 h1
    refine ⟨_, fun w' hw' => (h2 _ a w' (hS0 w' hw'.1 hw'.2)).2, ?_⟩
    have := hK2 Q hQ _ _ hS2 hD
    rwa [e3] at this
  · rw [hw]
    simp only [Bool.false_eq_true, if_false]
    obtain ⟨st2, hS2, e3, e4, hK2⟩ := putS_same hS1 (s := .v undef) trivial h
    have := hK2 Q hQ _ _ hS2 hD
    rw [e3, e1] at this
    exact this

/-- One that reads, at a class of worlds of another form. -/
theorem WpE.rdD_of (hC : CxOk P C) {i : Nat} {o : Oper} {t : Tr} {D : World → Prop} {K : St → Prop} {E : List (Nat × SV)} {H : List OE} {A : World} (hi : nth ops i = some o) (hk : kd i = .rd)
    (hg : guardV ops ⟨E, H, A⟩ o.guard (fun st => match st with | ⟨E', H', A'⟩ => ∃ s, (∀ w, D w → opV C.T ⟨E', H', w⟩ o.op fun s' => s' = s) ∧ putS C.n ⟨E', H', A'⟩ o.dst s fun st => WpE P C ops kd t D K st) (fun st => putS C.n st o.dst (.v undef) fun st => WpE P C ops kd t D K st)) :
    WpE P C ops kd (.st i t) D K ⟨E, H, A⟩ := by
  intro Q hQ a w hS hD
  have hi' : ops.toArray[i]? = some o := by rw [nth_eq] at hi; simpa using hi
  unfold wpT eOp
  simp only [hi', hk]
  obtain ⟨⟨E1, H1, A1⟩, hS1, e1, e2, ⟨hw, h⟩ | ⟨hw, h⟩⟩ := guardV_ok hS hg
  · rw [if_pos hw]
    simp only at h e1 e2
    subst e1 e2
    obtain ⟨s, h0, h1⟩ := h
    have hS0 : ∀ w', OwnAt H1 w' → Sat C.n ⟨E1, H1, w'⟩ a w' := fun w' ho => ⟨hS1.1, hS1.2.1, hS1.2.2.1, Ext.refl _, ho⟩
    have hy : ∀ w', D w' → OwnAt H1 w' → s.ok H1 ∧ (execOp a.eval o).run P w' = .ok (.value (den H1 s)) w' := by
      intro w' hd ho
      obtain ⟨s', e, h2⟩ := opV_ok hC.1 (h0 w' hd)
      subst e
      exact h2 _ a w' (hS0 w' ho)
    obtain ⟨st2, hS2, e3, e4, hK2⟩ := putS_same hS1 (hy w hD hS1.2.2.2.2).1 h1
    refine ⟨_, fun w' hw' => (hy w' hw'.1 hw'.2).2, ?_⟩
    have := hK2 Q hQ _ _ hS2 hD
    rwa [e3] at this
  · rw [hw]
    simp only [Bool.false_eq_true, if_false]
    obtain ⟨st2, hS2, e3, e4, hK2⟩ := putS_same hS1 (s := .v undef) trivial h
    have := hK2 Q hQ _ _ hS2 hD
    rw [e3, e1] at this
    exact this

/-- What was known is known still. -/
def Keep (H : List OE) (D : World → Prop) (st : St) : Prop := st.own = H ∧ ∀ w, Ext st.anc w → D w
theorem Keep.ext {A0 : World} {E : List (Nat × SV)} {H : List OE} {A : World} (h : Ext A0 A) : Keep H (Ext A0) ⟨E, H, A⟩ := ⟨rfl, fun _ hw => h.trans hw⟩
theorem Keep.mk {D : World → Prop} {E : List (Nat × SV)} {H : List OE} {A : World} (h : ∀ w, Ext A w → D w) : Keep H D ⟨E, H, A⟩ := ⟨rfl, h⟩

theorem WpE.ef_of (hC : CxOk P C) {i : Nat} {o : Oper} {t m : Tr} {D : World → Prop} {K : St → Prop} {st : St} (hi : nth ops i = some o) (hk : kd i = .ef)
    (h : guardV ops st o.guard (fun st1 => stepV P C st1 o.op fun s st' => putS C.n st' o.dst s fun st2 => Keep st.own D st2 ∧ WpE P C ops kd t D K st2) (fun st => putS C.n st o.dst (.v undef) fun st => WpE P C ops kd t D K st))
    (hm : m = .done ∨ WpE P C ops kd m D K st) : WpE P C ops kd (.ef i t m) D K st := by
  intro Q hQ a w hS hD
  have hi' : ops.toArray[i]? = some o := by rw [nth_eq] at hi; simpa using hi
  unfold wpT
  refine ⟨?_, hm.imp id fun hm => hm Q hQ a w hS hD⟩
  unfold eOp
  simp only [hi', hk]
  obtain ⟨st1, hS1, e1, e2, ⟨hw, h⟩ | ⟨hw, h⟩⟩ := guardV_ok hS h
  · rw [if_pos hw]
    refine stepV_ok hC h hS1 fun s st' w' hS' hs hK => ?_
    obtain ⟨st2, hS2, ⟨e3, hD2⟩, hK2⟩ := putS_ok hS' hs hK
    have hd := hD2 w' hS2.2.2.2.1
    have := hK2 Q hQ _ _ hS2 hd
    rw [e3] at this
    exact ⟨⟨hd, by have := hS2.2.2.2.2; rwa [e3] at this⟩, this⟩
  · rw [hw]
    simp only [Bool.false_eq_true, if_false]
    obtain ⟨st2, hS2, e3, e4, hK2⟩ := putS_same hS1 (s := .v undef) trivial h
    have := hK2 Q hQ _ _ hS2 hD
    rw [e3, e1] at this
    exact this

def WpB (P : Program) (C : Cx) (ops : List Oper) (kd : Nat → Kd) (t : Tr) (K : St → Prop) (st : St) : Prop := match st with
  | ⟨E, H, A⟩ => WpE P C ops kd t (Ext A) K ⟨E, H, A⟩
theorem WpE.br_of (hC : CxOk P C) {i : Nat} {o : Oper} {t : Tr} {D : World → Prop} {K : St → Prop} {st : St} (hi : nth ops i = some o) (hk : kd i = .br)
    (h : guardV ops st o.guard (fun st1 => stepV P C st1 o.op fun s st' => putS C.n st' o.dst s fun st2 => WpB P C ops kd t K st2) (fun st => putS C.n st o.dst (.v undef) fun st => WpE P C ops kd t D K st)) : WpE P C ops kd (.ef i t .done) D K st := by
  intro Q hQ a w hS hD
  have hi' : ops.toArray[i]? = some o := by rw [nth_eq] at hi; simpa using hi
  unfold wpT
  refine ⟨?_, .inl rfl⟩
  unfold eOp
  simp only [hi', hk]
  obtain ⟨st1, hS1, e1, e2, ⟨hw, h⟩ | ⟨hw, h⟩⟩ := guardV_ok hS h
  · rw [if_pos hw]
    refine stepV_ok hC h hS1 fun s st' w' hS' hs hK => ?_
    obtain ⟨⟨E2, H2, A2⟩, hS2, hK2⟩ := putS_ok hS' hs hK
    exact ⟨fun w => Ext A2 w ∧ OwnAt H2 w, ⟨hS2.2.2.2.1, hS2.2.2.2.2⟩, hK2 Q hQ _ _ hS2 hS2.2.2.2.1⟩
  · rw [hw]
    simp only [Bool.false_eq_true, if_false]
    obtain ⟨st2, hS2, e3, e4, hK2⟩ := putS_same hS1 (s := .v undef) trivial h
    have := hK2 Q hQ _ _ hS2 hD
    rw [e3, e1] at this
    exact this

def kdL : List (Nat × Kd) → Nat → Kd
  | [], _ => .rd
  | (j, k) :: r, i => match Nat.beq j i with
    | true => k
    | false => kdL r i

theorem WpC.drawD_of (hC : CxOk P C) {kn : St → Prop} {kx : List (Nat × (St → Prop))} {kr : St → Prop} {st : St} {id : Nat} {l : List Oper} (D : World → Prop) (hD : ∀ w, Ext st.anc w → D w) (t : Tr) (ks : List (Nat × Kd))
    (hok : (Region.noSelect l.toArray && okT l.toArray (kdL ks) 3 t true l.length (Array.replicate l.length false)) = true)
    (h : WpE P C l (kdL ks) t D kn st) : WpC P C (.region id l.toArray true) kn kx kr st := by
  intro Q h1 _ _ a w hS
  simp only [Bool.and_eq_true] at hok
  have hx : Ext st.anc { w with drawn := w.drawn + 1 } := ⟨hS.2.2.2.1.os, hS.2.2.2.1.tape, hS.2.2.2.1.output, hS.2.2.2.1.size, hS.2.2.2.1.block⟩
  have hS' : Sat C.n st a { w with drawn := w.drawn + 1 } := ⟨hS.1, hS.2.1, hS.2.2.1, hx, hS.2.2.2.2⟩
  exact wp_region_tree (D := fun w => D w ∧ OwnAt st.own w) hC.2.2 hok.1 3 (by simpa using hok.2) ⟨hD _ hx, hS.2.2.2.2⟩ (h (fun a w => Q .normal a w) (fun st a w hS hk => h1 st a w hS hk) a _ hS' (hD _ hx))
theorem WpC.drawE_of (hC : CxOk P C) {kn : St → Prop} {kx : List (Nat × (St → Prop))} {kr : St → Prop} {E : List (Nat × SV)} {H : List OE} {A : World} {id : Nat} {l : List Oper} (t : Tr) (ks : List (Nat × Kd))
    (hok : (Region.noSelect l.toArray && okT l.toArray (kdL ks) 3 t true l.length (Array.replicate l.length false)) = true)
    (h : WpE P C l (kdL ks) t (Ext A) kn ⟨E, H, A⟩) : WpC P C (.region id l.toArray true) kn kx kr ⟨E, H, A⟩ := WpC.drawD_of hC (Ext A) (fun _ h => h) t ks hok h
end
end Go.Proofs.YtbnjjpgacemicaaGreatDoor.Vc
