/-
  **The conditions of code suffice**: regions, branches, loops, a whole function.
  Conditions: none.
-/
import Derived.Test.YtbnjjpgacemicaaGreatDoorVcT
namespace Go.Proofs.YtbnjjpgacemicaaGreatDoor.Vc
open Go.RowKit

section
variable {P : Program} {C : Cx} {st : St} {a : Act} {w : World}

theorem look_cons {e : List (Nat × SV)} {d t : Nat} {s : SV} : look ((d, s) :: e) t = if d = t then some s else look e t := by
  unfold look
  split
  · rename_i h
    rw [if_pos (Nat.eq_of_beq_eq_true h)]
  · rename_i h
    rw [if_neg (fun e => by subst e; simp at h)]
    cases e <;> rfl
theorem Sat.put (hS : Sat C.n st a w) {d : Nat} (hd : d < C.n) {s : SV} (hs : s.ok st.own) : Sat C.n ⟨(d, s) :: st.env, st.own, st.anc⟩ (a.put (some d) (den st.own s)) w := by
  obtain ⟨h1, h2, h3, h4, h5⟩ := hS
  refine ⟨by simp [Act.put, h1], h2, fun t u hu => ?_, h4, h5⟩
  rw [look_cons] at hu
  by_cases e : d = t
  · subst e
    rw [if_pos rfl] at hu
    cases hu
    refine ⟨hs, ?_⟩
    simp only [Act.put, Array.getD_eq_getD_getElem?, Array.getElem?_setIfInBounds, if_pos, h1, if_pos hd]
    rfl
  · rw [if_neg e] at hu
    obtain ⟨h6, h7⟩ := h3 t u hu
    refine ⟨h6, ?_⟩
    rw [← h7]
    simp [Act.put, Array.getD_eq_getD_getElem?, e]
theorem putS_ok (hS : Sat C.n st a w) {d : Option Tmp} {s : SV} (hs : s.ok st.own) {K : St → Prop} (h : putS C.n st d s K) : ∃ st', Sat C.n st' (a.put d (den st.own s)) w ∧ K st' := by
  cases d with
  | none => exact ⟨st, hS, h⟩
  | some d =>
    obtain ⟨E, H, A⟩ := st
    unfold putS at h
    simp only at h
    split at h
    · rename_i hb
      exact ⟨_, hS.put (by simpa [Nat.blt_eq] using hb) hs, h⟩
    · exact h.elim

/-- What a known bool in a slot gives. -/
theorem Sat.known (hS : Sat C.n st a w) {d : Nat} {x : Bool} (h : look st.env d = some (.v (.bool x))) : Sat C.n ⟨(d, .v (.bool x)) :: st.env, st.own, st.anc⟩ a w := by
  obtain ⟨h1, h2, h3, h4, h5⟩ := hS
  refine ⟨h1, h2, fun t u hu => ?_, h4, h5⟩
  rw [look_cons] at hu
  by_cases e : d = t
  · subst e
    rw [if_pos rfl] at hu
    cases hu
    exact h3 d _ h
  · rw [if_neg e] at hu
    exact h3 t u hu

theorem guardV_ok (hS : Sat C.n st a w) {ops : List Oper} {o : Oper} {yes no : St → Prop} (h : guardV ops st o.guard yes no) :
    ∃ st', Sat C.n st' a w ∧ st'.own = st.own ∧ st'.anc = st.anc ∧ ((Region.wanted o (yielded ops.toArray a.tmps) = true ∧ yes st') ∨ (Region.wanted o (yielded ops.toArray a.tmps) = false ∧ no st')) := by
  cases hg : o.guard with
  | none =>
    rw [hg] at h
    exact ⟨st, hS, rfl, rfl, .inl ⟨by simp [Region.wanted, hg], h⟩⟩
  | some g =>
    obtain ⟨j, b⟩ := g
    obtain ⟨E, H, A⟩ := st
    rw [hg] at h
    unfold guardV at h
    simp only at h
    split at h
    · exact h.elim
    · rename_i oj hj
      split at h
      · exact h.elim
      · rename_i d hd
        rw [nth_eq] at hj
        split at h
        · rename_i x hx
          have hv : a.tmps.getD d undef = .bool x := (hS.2.2.1 d _ hx).2
          have hv2 : a.tmps[d]? = some (.bool x) := by
            rw [Array.getD_eq_getD_getElem?] at hv
            cases hq : a.tmps[d]? with
            | none => rw [hq] at hv; cases hv
            | some y => rw [hq] at hv; simp only [Option.getD_some] at hv; rw [hv]
          have hy : yielded ops.toArray a.tmps j = some x := by
            simp [yielded, hj, hd, hv2]
          have hw : Region.wanted o (yielded ops.toArray a.tmps) = (x == b) := by
            simp only [Region.wanted, hg, hy]
            cases x <;> cases b <;> rfl
          have hS2 := hS.known hx
          refine ⟨_, hS2, rfl, rfl, ?_⟩
          rw [hw]
          cases x <;> cases b
          · exact .inl ⟨rfl, h⟩
          · exact .inr ⟨rfl, h⟩
          · exact .inr ⟨rfl, h⟩
          · exact .inl ⟨rfl, h⟩
        · rename_i vs hx
          have hv : a.tmps.getD d undef = .tuple vs := (hS.2.2.1 d _ hx).2
          have hy : yielded ops.toArray a.tmps j = none := by
            rw [Array.getD_eq_getD_getElem?] at hv
            cases hq : a.tmps[d]? with
            | none => simp [yielded, hj, hd, hq]
            | some y =>
              rw [hq] at hv; simp only [Option.getD_some] at hv
              simp [yielded, hj, hd, hq, hv]
          refine ⟨⟨E, H, A⟩, hS, rfl, rfl, .inr ⟨?_, h⟩⟩
          simp [Region.wanted, hg, hy]
        · exact h.elim

/-- A list of operations, in their order: what is to be known of the state. -/
def WpL (P : Program) (C : Cx) (ops : List Oper) (l : List Oper) (K : St → Prop) (st : St) : Prop :=
  ∀ (Q : Exit → Act → World → Prop), (∀ st a w, Sat C.n st a w → K st → Q .normal a w) → ∀ (a : Act) (w : World), Sat C.n st a w → wpList P ops.toArray Q l a w
theorem WpL.nil {ops : List Oper} {K : St → Prop} (h : K st) : WpL P C ops [] K st := fun _ hQ a w hS => hQ st a w hS h
theorem WpL.cons_of (hC : CxOk P C) {ops : List Oper} {o : Oper} {r : List Oper} {K : St → Prop}
    (h : guardV ops st o.guard (fun st => stepV P C st o.op fun s st' => putS C.n st' o.dst s fun st => WpL P C ops r K st) (fun st => putS C.n st o.dst (.v undef) fun st => WpL P C ops r K st)) :
    WpL P C ops (o :: r) K st := by
  intro Q hQ a w hS
  obtain ⟨st1, hS1, _, _, ⟨hw, h⟩ | ⟨hw, h⟩⟩ := guardV_ok hS h
  · unfold wpList
    rw [if_pos hw]
    refine .inl (stepV_ok hC h hS1 fun s st' w' hS' hs hK => ?_)
    obtain ⟨st2, hS2, hK2⟩ := putS_ok hS' hs hK
    exact hK2 Q hQ _ _ hS2
  · unfold wpList
    rw [hw]
    simp only [Bool.false_eq_true, if_false]
    obtain ⟨st2, hS2, hK2⟩ := putS_ok hS1 (s := .v undef) trivial h
    exact hK2 Q hQ _ _ hS2

/-- The worlds that are known at a state. -/
def At (st : St) (w : World) : Prop := Ext st.anc w ∧ OwnAt st.own w

/-- An operation of a region that draws its order. -/
theorem quietV_ok (hC : CxOk P C) {o : Oper} {K : SV → Prop} (h : quietV P C st o.op K) (hS : Sat C.n st a w) :
    ∃ s, K s ∧ s.ok st.own ∧ ∀ w', At st w' → o.quietAt P a (At st) w' (den st.own s) := by
  have hall : ∀ w', At st w' → Sat C.n st a w' := fun w' hw => ⟨hS.1, hS.2.1, hS.2.2.1, hw.1, hw.2⟩
  have plain : ∀ {o : Oper}, opV C.T st o.op K → ∃ s, K s ∧ s.ok st.own ∧ ∀ w', At st w' → o.quietAt P a (At st) w' (den st.own s) := by
    intro o h
    obtain ⟨s, h1, h2⟩ := opV_ok hC.1 h
    refine ⟨s, h1, (h2 _ a w hS).1, fun w' hw => ?_⟩
    unfold Oper.quietAt
    rw [(h2 _ a w' (hall w' hw)).2]
    exact ⟨rfl, rfl⟩
  obtain ⟨dst, op, type, pos, after, guard⟩ := o
  obtain ⟨E, H, A⟩ := st
  simp only at h
  unfold quietV at h
  simp only at h
  split at h
  · rename_i cl
    split at h
    · exact plain (o := ⟨dst, .call cl, type, pos, after, guard⟩) h
    · exact h.elim
    · obtain ⟨f, args, ⟨v, h1, h2⟩, h3⟩ := calleeV_ok hC h
      refine ⟨.v v, h2, trivial, fun w' hw => ?_⟩
      unfold Oper.quietAt execOp
      simp only [h3 _ a w' type (hall w' hw)]
      exact ⟨rfl, (h1 w' hw.1 hw.2).mono fun e w'' ⟨he, hx⟩ => ⟨he, hw.1.trans hx, hw.2.ext hx⟩⟩
  · exact plain (o := ⟨dst, op, type, pos, after, guard⟩) h

theorem putS_same {n : Nat} {d : Option Tmp} {s : SV} {K : St → Prop} (hS : Sat n st a w) (hs : s.ok st.own) (h : putS n st d s K) :
    ∃ st', Sat n st' (a.put d (den st.own s)) w ∧ st'.own = st.own ∧ st'.anc = st.anc ∧ K st' := by
  cases d with
  | none => exact ⟨st, hS, rfl, rfl, h⟩
  | some d =>
    obtain ⟨E, H, A⟩ := st
    unfold putS at h
    simp only at h
    split at h
    · rename_i hb
      exact ⟨_, Sat.put (C := ⟨[], [], n⟩) hS (by simpa [Nat.blt_eq] using hb) hs, rfl, rfl, h⟩
    · exact h.elim

/-- Operations of a region that draws its order. -/
def WpD (P : Program) (C : Cx) (ops : List Oper) (l : List Oper) (K : St → Prop) (st : St) : Prop :=
  ∀ (D : World → Prop) (Q : Act → Prop), (∀ st a w, Sat C.n st a w → (∀ w, At st w ↔ D w) → K st → Q a) → ∀ (a : Act) (w : World), Sat C.n st a w → (∀ w, At st w ↔ D w) → wpQuiet P ops.toArray D Q l a
theorem WpD.nil {ops : List Oper} {K : St → Prop} (h : K st) : WpD P C ops [] K st := fun _ _ hQ a w hS hD => hQ st a w hS hD h
theorem WpD.cons_of (hC : CxOk P C) {ops : List Oper} {o : Oper} {r : List Oper} {K : St → Prop}
    (h : guardV ops st o.guard (fun st => quietV P C st o.op fun s => putS C.n st o.dst s fun st => WpD P C ops r K st) (fun st => putS C.n st o.dst (.v undef) fun st => WpD P C ops r K st)) :
    WpD P C ops (o :: r) K st := by
  intro D Q hQ a w hS hD
  have hat : ∀ {st' : St}, st'.own = st.own → st'.anc = st.anc → ∀ w, At st' w ↔ D w := fun e1 e2 w => by
    rw [← hD w]; unfold At; rw [e1, e2]
  obtain ⟨st1, hS1, e1, e2, ⟨hw, h⟩ | ⟨hw, h⟩⟩ := guardV_ok hS h
  · unfold wpQuiet
    rw [if_pos hw]
    obtain ⟨s, h1, h2, h3⟩ := quietV_ok hC h hS1
    obtain ⟨st2, hS2, e3, e4, hK2⟩ := putS_same hS1 h2 h1
    refine ⟨_, fun w' hw' => ?_, hK2 D Q hQ _ _ hS2 (hat (e3.trans e1) (e4.trans e2))⟩
    have := h3 w' ((hat e1 e2 w').2 hw')
    have hfun : At st1 = D := funext fun w => propext (hat e1 e2 w)
    rwa [hfun] at this
  · unfold wpQuiet
    rw [hw]
    simp only [Bool.false_eq_true, if_false]
    obtain ⟨st2, hS2, e3, e4, hK2⟩ := putS_same hS1 (s := .v undef) trivial h
    exact hK2 D Q hQ _ _ hS2 (hat (e3.trans e1) (e4.trans e2))

theorem EnvLe.out {e e' : List (Nat × SV)} (h : EnvLe e e') {t : Nat} {s : SV} (hs : look e' t = some s) : look e t = some s := by
  induction e' with
  | nil => cases hs
  | cons x r ih =>
    obtain ⟨d, u⟩ := x
    rw [look_cons] at hs
    by_cases e : d = t
    · subst e
      rw [if_pos rfl] at hs
      cases hs
      exact h.1
    · rw [if_neg e] at hs
      exact ih h.2 hs
theorem OwnLe.out {H H' : List OE} (h : OwnLe H H') : ∃ m, H = H' ++ m := by
  induction H' generalizing H with
  | nil => exact ⟨H, rfl⟩
  | cons y s ih => cases H with
    | nil => exact h.elim
    | cons x r =>
      obtain ⟨m, hm⟩ := ih h.2
      exact ⟨m, by rw [h.1, hm]; rfl⟩
theorem EnvOk.out {H : List OE} {e : List (Nat × SV)} (h : EnvOk H e) {t : Nat} {s : SV} (hs : look e t = some s) : s.ok H := by
  induction e with
  | nil => cases hs
  | cons x r ih =>
    obtain ⟨d, u⟩ := x
    rw [look_cons] at hs
    cases u with
    | v y =>
      by_cases e : d = t
      · rw [if_pos e] at hs; cases hs; trivial
      · rw [if_neg e] at hs; exact ih h hs
    | own i o =>
      by_cases e : d = t
      · rw [if_pos e] at hs
        cases hs
        have := h.1
        rw [len1_eq] at this
        exact (by simpa [Nat.blt_eq] using this : i < H.length)
      · rw [if_neg e] at hs; exact ih h.2 hs
/-- What a state knows, a state that knows less knows too. -/
theorem Sat.le {st' : St} (hS : Sat C.n st a w) (h : StLe st st') : Sat C.n st' a w := by
  obtain ⟨h1, h2, h3, h4, h5⟩ := hS
  obtain ⟨k1, k2, k4, k3⟩ := h
  have hok := fun t s => k4.out (t := t) (s := s)
  obtain ⟨m, hm⟩ := k2.out
  refine ⟨h1, h2, fun t s hs => ?_, k3.trans h4, ?_, ?_⟩
  · have hk := hok t s hs
    refine ⟨hk, ?_⟩
    rw [(h3 t s (k1.out hs)).2, hm, den_append hk]
  · intro i o hi
    refine h5.1 i o ?_
    rw [hm]; exact nth_append hi
  · intro i j o p hi hj he
    refine h5.2 i j o p ?_ ?_ he
    · rw [hm]; exact nth_append hi
    · rw [hm]; exact nth_append hj

theorem lookX_cons {kx : List (Nat × (St → Prop))} {i t : Nat} {k : St → Prop} : lookX ((i, k) :: kx) t = if i = t then some k else lookX kx t := by
  unfold lookX
  split
  · rename_i h
    rw [if_pos (Nat.eq_of_beq_eq_true h)]
  · rename_i h
    rw [if_neg (fun e => by subst e; simp at h)]
    cases kx <;> rfl

/-- Code: what is to be known of the state, if at each way out of it this and that is to be known. -/
def WpC (P : Program) (C : Cx) (c : Code) (kn : St → Prop) (kx : List (Nat × (St → Prop))) (kr : St → Prop) (st : St) : Prop :=
  ∀ (Q : Exit → Act → World → Prop), (∀ st a w, Sat C.n st a w → kn st → Q .normal a w) → (∀ id k st a w, lookX kx id = some k → Sat C.n st a w → k st → Q (.exit id) a w) →
    (∀ st a w, Sat C.n st a w → kr st → Q .ret a w) → ∀ (a : Act) (w : World), Sat C.n st a w → c.wp P Q a w

section
variable {kn : St → Prop} {kx : List (Nat × (St → Prop))} {kr : St → Prop}
theorem WpC.skip (h : kn st) : WpC P C .skip kn kx kr st := fun _ h1 _ _ a w hS => wp_skip (h1 st a w hS h)
theorem WpC.label {l : Nat} (h : kn st) : WpC P C (.label l) kn kx kr st := fun _ h1 _ _ a w hS => wp_label (h1 st a w hS h)
theorem WpC.ret (h : kr st) : WpC P C .ret kn kx kr st := fun _ _ _ h3 a w hS => wp_ret (h3 st a w hS h)
theorem WpC.reg {id : Nat} {l : List Oper} (h : WpL P C l l kn st) : WpC P C (.region id l.toArray false) kn kx kr st :=
  fun _ h1 _ _ a w hS => wp_region_list (by simpa using h _ h1 a w hS)
theorem WpC.draw_of (hC : CxOk P C) {id : Nat} {l : List Oper} (hl : Region.lexB .any l.toArray = true) (h : WpD P C l l kn st) : WpC P C (.region id l.toArray true) kn kx kr st := by
  intro Q h1 _ _ a w hS
  refine wp_region_quiet (C := At st) hC.2.2 hl ⟨⟨hS.2.2.2.1.os, hS.2.2.2.1.tape, hS.2.2.2.1.output, hS.2.2.2.1.size, hS.2.2.2.1.block⟩, hS.2.2.2.2⟩ ?_
  have := h (At st) (fun a' => ∀ w', At st w' → Q .normal a' w') (fun st' a' w' hS' hD hk w1 hw1 => by
    have := (hD w1).2 hw1
    exact h1 st' a' w1 ⟨hS'.1, hS'.2.1, hS'.2.2.1, this.1, this.2⟩ hk) a w hS (fun w => Iff.rfl)
  simpa using this
theorem WpC.seq {x y : Code} (h : WpC P C x (fun st => WpC P C y kn kx kr st) kx kr st) : WpC P C (.seq x y) kn kx kr st :=
  fun Q h1 h2 h3 a w hS => wp_seq (h (Exit.then (y.wp P Q) Q) (fun _ a' w' hS' hk => hk Q h1 h2 h3 a' w' hS') (fun id k st a w e hS' hk => h2 id k st a w e hS' hk) (fun st a w hS' hk => h3 st a w hS' hk) a w hS)
/-- A cut: what is known behind the first, whichever way was taken. -/
theorem WpC.cut {x y : Code} {α : Type} (s : α → St) (Pre : α → Prop) (h : WpC P C x (fun st => ∃ y, Pre y ∧ StLe st (s y)) kx kr st) (k : ∀ z, Pre z → WpC P C y kn kx kr (s z)) : WpC P C (.seq x y) kn kx kr st :=
  fun Q h1 h2 h3 a w hS => wp_seq (h (Exit.then (y.wp P Q) Q) (fun _ a' w' hS' ⟨z, hz, hle⟩ => k z hz Q h1 h2 h3 a' w' (hS'.le hle)) (fun id k st a w e hS' hk => h2 id k st a w e hS' hk) (fun st a w hS' hk => h3 st a w hS' hk) a w hS)
theorem WpC.cond {c : Operand} {x y : Code} {b : Bool} (hb : ev st c = some (.v (.bool b))) (h : Br b (WpC P C x kn kx kr st) (WpC P C y kn kx kr st)) : WpC P C (.cond c x y) kn kx kr st := by
  intro Q h1 h2 h3 a w hS
  refine wp_cond (ev_v hS hb) ?_
  rcases h.out with ⟨rfl, h⟩ | ⟨rfl, h⟩
  · exact h Q h1 h2 h3 a w hS
  · exact h Q h1 h2 h3 a w hS
theorem WpC.block {id : Nat} {c : Code} (h : WpC P C c kn ((id, kn) :: kx) kr st) : WpC P C (.block id c) kn kx kr st := by
  intro Q h1 h2 h3 a w hS
  refine wp_block (h (Exit.inBlock id Q) (fun st a w hS' hk => h1 st a w hS' hk) (fun id' k st a w e hS' hk => ?_) (fun st a w hS' hk => h3 st a w hS' hk) a w hS)
  rw [lookX_cons] at e
  simp only [Exit.inBlock]
  by_cases hid : id = id'
  · rw [if_pos hid] at e
    cases e
    rw [if_pos hid.symm]
    exact h1 st a w hS' hk
  · rw [if_neg hid] at e
    rw [if_neg (fun e' => hid e'.symm)]
    exact h2 id' k st a w e hS' hk
theorem WpC.exit {id : Nat} {k : St → Prop} (hk : lookX kx id = some k) (h : k st) : WpC P C (.exit id) kn kx kr st :=
  fun _ _ h2 _ a w hS => wp_exit (h2 id k st a w hk hS h)
theorem WpC.scope {c : Code} (h : WpC P C c kn kx kr st) : WpC P C (.scope c) kn kx kr st :=
  fun Q h1 h2 h3 a w hS => wp_scope_straight (h (Exit.noGoto Q) (fun st a w hS' hk => h1 st a w hS' hk) (fun id k st a w e hS' hk => h2 id k st a w e hS' hk) (fun st a w hS' hk => h3 st a w hS' hk) a w hS)
/-- A loop: what holds at the head of each round. -/
theorem WpC.loop {c : Code} {α : Type} (s : α → St) (Pre : α → Prop) (μ : α → Nat) (x : α) (hx : Pre x) (hle : StLe st (s x))
    (hr : ∀ x, Pre x → WpC P C c (fun st' => ∃ x', Pre x' ∧ μ x' < μ x ∧ StLe st' (s x')) kx kr (s x)) : WpC P C (.loop c) kn kx kr st := by
  intro Q h1 h2 h3 a w hS
  refine wp_loop_ghost (fun n a w => ∃ x, Pre x ∧ μ x = n ∧ Sat C.n (s x) a w) (μ x) ⟨x, hx, rfl, hS.le hle⟩ ?_
  rintro n a w ⟨y, hy, rfl, hSy⟩
  exact hr y hy (Exit.then (fun a' w' => ∃ n', n' < μ y ∧ ∃ x, Pre x ∧ μ x = n' ∧ Sat C.n (s x) a' w') Q) (fun st' a' w' hS' ⟨z, hz, hlt, hle'⟩ => ⟨μ z, hlt, z, hz, rfl, hS'.le hle'⟩) (fun id k st a w e hS' hk => h2 id k st a w e hS' hk) (fun st a w hS' hk => h3 st a w hS' hk) a w hSy
end

theorem initK_eq (l : List Value) : ∀ (k : Nat) (K : List (Nat × SV) → Prop), initK k l K = K (initE k l) := by
  induction l with
  | nil => intro k K; rfl
  | cons v r ih => intro k K; rw [initK, ih, initE]
theorem initE_ok (l : List Value) : ∀ (k : Nat) {t : Nat} {s : SV}, look (initE k l) t = some s → k ≤ t ∧ ∃ v, l[t - k]? = some v ∧ s = .v v := by
  induction l with
  | nil => intro k t s h; cases h
  | cons v r ih =>
    intro k t s h
    rw [initE, look_cons] at h
    by_cases e : k = t
    · subst e
      rw [if_pos rfl] at h
      cases h
      exact ⟨Nat.le_refl _, v, by simp, rfl⟩
    · rw [if_neg e] at h
      obtain ⟨h1, u, h2, h3⟩ := ih (k + 1) h
      refine ⟨by omega, u, ?_, h3⟩
      rw [show t - k = (t - (k + 1)) + 1 by omega]
      simpa using h2

/-- A result's value, read out of its slot or its variable. -/
def resS (tmps : Array Value) : ResultVar → Sem Value
  | .tmp t => pure (tmps.getD t undef)
  | .cell b t => do loadVar t (← asAddr (tmps.getD b undef))
theorem run_value {s : Sem Value} {v : Value} {w w' : World} (h : (do pure (Next.value (← s)) : Sem Next).run P w = .ok (.value v) w') : s.run P w = .ok v w' := by
  rw [Sem.run_bind] at h
  cases hs : s.run P w with
  | ok x w1 =>
    rw [hs] at h
    simp only [Result.andThen_ok, Sem.run_pure, Result.ok.injEq, Next.value.injEq] at h
    rw [h.1, h.2]
  | halt x w1 => rw [hs] at h; cases h
theorem resV_ok (hC : CxOk P C) {rs : List ResultVar} {K : List Value → Prop} (h : resV C.T st rs K) (hS : Sat C.n st a w) :
    ∃ l, K l ∧ l.length = rs.length ∧ (rs.mapM (resS a.tmps)).run P w = .ok l w := by
  induction rs generalizing K with
  | nil => exact ⟨[], h, rfl, by simp⟩
  | cons r rs ih =>
    cases r with
    | tmp t =>
      have hv : onV (ev st (.tmp t)) st.own fun v => resV C.T st rs fun l => K (v :: l) := h
      obtain ⟨v, h1, h2⟩ := onV_ok hv
      obtain ⟨l, h3, h4, h5⟩ := ih h1
      have he : a.tmps.getD t undef = v := h2 _ a w hS
      refine ⟨v :: l, h3, by simp [h4], ?_⟩
      have h7 : (resS a.tmps (.tmp t)).run P w = .ok v w := by rw [resS, he]; rfl
      rw [List.mapM_cons, Sem.run_bind, h7, Result.andThen_ok, Sem.run_bind, h5]
      rfl
    | cell b t =>
      have hv : opV C.T st (.load t (.tmp b)) fun s => match s with
        | .v v => resV C.T st rs fun l => K (v :: l)
        | _ => False := h
      obtain ⟨s, h1, h2⟩ := opV_ok (o := ⟨none, .load t (.tmp b), 0, "", #[], none⟩) hC.1 hv
      cases s with
      | own i o => exact h1.elim
      | v v =>
        obtain ⟨l, h3, h4, h5⟩ := ih h1
        obtain ⟨_, h6⟩ := h2 _ a w hS
        have h8 : (Instr.loadAt t (a.tmps.getD b undef)).run P w = .ok v w := run_value h6
        refine ⟨v :: l, h3, by simp [h4], ?_⟩
        have h7 : (resS a.tmps (.cell b t)).run P w = .ok v w := by
          rw [resS]
          generalize a.tmps.getD b undef = u at *
          rw [Instr.loadAt, Sem.run_bind] at h8
          cases u <;> first | (simp [Instr.sureAddr] at h8; done) | skip
          rename_i p
          cases p with
          | none => simp [Instr.sureAddr] at h8
          | some p => exact h8
        rw [List.mapM_cons, Sem.run_bind, h7, Result.andThen_ok, Sem.run_bind, h5]
        rfl

/-- **A function does what its conditions say.** -/
theorem calls_of {T : List TI} {F : List FuncId} {f : FuncId} {fn : Func} {c : Code} {args : Array Value} {R : Ending → World → Prop} (hC : TOk P T ∧ F.all (funB P) = true ∧ P.follows .mixedOrders = true)
    (hf : P.funcs[f]? = some fn) {n : Nat} (hn : fn.ntmps = n) {rs : Array ResultVar} (hr : fn.results = rs) (hb : fn.body = some c) (hle : Nat.ble args.size n = true)
    (h : initK 0 args.toList fun E => WpC P ⟨T, F, n⟩ c (doneV T rs.toList R) [] (doneV T rs.toList R) ⟨E, [], w⟩) : Calls P f args w R := by
  rw [initK_eq] at h
  have hn : args.size + (fn.ntmps - args.size) = n := by
    have := Nat.le_of_ble_eq_true hle
    omega
  have hr : fn.results.toList = rs.toList := by rw [hr]
  have hC' : CxOk P ⟨T, F, n⟩ := hC
  refine calls_of_wp hf hb ?_
  have hS : Sat n ⟨initE 0 args.toList, [], w⟩ { tmps := args ++ Array.replicate (fn.ntmps - args.size) undef, defers := [] } w := by
    have hO : OwnAt [] w := ⟨fun i o h => (by cases h), fun i j o p h => (by cases h)⟩
    refine ⟨by simp [hn], rfl, fun t s hs => ?_, Ext.refl _, hO⟩
    obtain ⟨_, v, h2, rfl⟩ := initE_ok _ _ hs
    refine ⟨trivial, ?_⟩
    simp only [Nat.sub_zero, Array.getElem?_toList] at h2
    have hlt := (Array.getElem?_eq_some_iff.1 h2).1
    rw [Array.getD_eq_getD_getElem?, Array.getElem?_append_left hlt, h2]
    rfl
  have fin : ∀ st a w, Sat n st a w → doneV T rs.toList R st → a.defers = [] ∧ ∃ v, (results fn a.tmps).run P w = .ok v w ∧ R (.returned v) w := by
    intro st a w hS' hd
    obtain ⟨E, H, A⟩ := st
    obtain ⟨l, h1, h2, h3⟩ := resV_ok hC' (st := ⟨E, H, A⟩) hd hS'
    have h1 : EndV H A R (match (generalizing := false) l with | [v] => v | l => .tuple l.toArray) := by
      cases l with
      | nil => exact h1
      | cons v r => cases r <;> exact h1
    refine ⟨hS'.2.1, _, ?_, h1 w hS'.2.2.2.1 hS'.2.2.2.2⟩
    have e : results fn a.tmps = (do
        let vs ← fn.results.mapM (resS a.tmps)
        pure (if h : vs.size = 1 then vs[0] else .tuple vs)) := by
      unfold results
      congr 1
    rw [e, Sem.run_bind, Array.mapM_eq_mapM_toList, Sem.run_map, hr, h3]
    simp only [Result.andThen_ok, Sem.run_pure]
    cases l with
    | nil => rfl
    | cons v r => cases r with
      | nil => rfl
      | cons u r => rfl
  exact h _ (fun st a w hS' hd => fin st a w hS' hd) (fun id k st a w e => by cases e) (fun st a w hS' hd => fin st a w hS' hd) _ w hS


/-! ### The calculus' rules, for a walk -/
theorem EndV.own {H : List OE} {A : World} {R : Ending → World → Prop} {v : Value} (h : ∀ w, Ext A w → OwnAt H w → R (.returned v) w) : EndV H A R v := h
theorem EndV.mk {H : List OE} {A : World} {R : Ending → World → Prop} {v : Value} (h : ∀ w, Ext A w → R (.returned v) w) : EndV H A R v := fun w hw _ => h w hw
/-- What most functions are said to do: one value, and nothing that was there has turned. -/
abbrev Gives (P : Program) (f : FuncId) (args : Array Value) (w : World) (v : Value) : Prop := Calls P f args w fun e w' => e = .returned v ∧ Ext w w'
theorem EndV.val {H : List OE} {A w : World} {u v : Value} (e : u = v) (h : Ext w A) : EndV H A (fun e w' => e = .returned v ∧ Ext w w') u := fun _ hw _ => ⟨by rw [e], h.trans hw⟩
theorem _root_.Go.Calls.of_same {f : FuncId} {args : Array Value} {v : Value} (h : Calls P f args w fun e w' => e = .returned v ∧ w = w') : Gives P f args w v := h.mono fun _ _ ⟨e, h⟩ => ⟨e, h ▸ Ext.refl _⟩
theorem I64.mk {n : Int} (h : -9223372036854775808 ≤ n ∧ n ≤ 9223372036854775807) : I64 n := h
theorem QCallV.val {f : FuncId} {args : Array Value} {H : List OE} {A : World} {K : Value → Prop} {v : Value} (h : ∀ w, Ext A w → OwnAt H w → Gives P f args w v) (k : K v) : QCallV P f args H A K := ⟨v, h, k⟩
theorem CallV.val {f : FuncId} {args : Array Value} {H : List OE} {A : World} {K : Value → List OE → World → Prop} {v : Value} (h : ∀ w, Ext A w → OwnAt H w → Gives P f args w v) (k : K v H A) : CallV P f args H A K :=
  ⟨fun u w w' => u = v ∧ Ext w w', fun w h1 h2 => (h w h1 h2).mono fun _ _ ⟨e, hx⟩ => ⟨v, e, rfl, hx⟩, fun _ _ _ h1 h2 ⟨e, hx⟩ => ⟨A, H, ⟨[], by simp⟩, h1.trans hx, h2.ext hx, e ▸ k⟩⟩
/-- A call that makes memory of which something is told. -/
theorem CallV.mem {f : FuncId} {args : Array Value} {H : List OE} {A : World} {K : Value → List OE → World → Prop} (Φ : Value → World → World → Prop)
    (h : ∀ w, Ext A w → OwnAt H w → Calls P f args w (fun e w' => ∃ v, e = .returned v ∧ Φ v w w' ∧ Ext w w')) (k : ∀ v w w', Ext A w → Ext w w' → OwnAt H w → Φ v w w' → K v H w') : CallV P f args H A K :=
  ⟨fun u w w' => Φ u w w' ∧ Ext w w', h, fun v w w' h1 h2 ⟨hp, hx⟩ => ⟨w', H, ⟨[], by simp⟩, Ext.refl _, h2.ext hx, k v w w' h1 hx h2 hp⟩⟩
/-- A call that turns memory; no block of the caller's own is known. -/
theorem CallV.turn {f : FuncId} {args : Array Value} {A : World} {K : Value → List OE → World → Prop} (Φ : Value → World → World → Prop)
    (h : ∀ w, Ext A w → OwnAt [] w → Calls P f args w (fun e w' => ∃ v, e = .returned v ∧ Φ v w w')) (k : ∀ v w w', Ext A w → Φ v w w' → K v [] w') : CallV P f args [] A K :=
  ⟨Φ, h, fun v w w' h1 _ hp => ⟨w', [], ⟨[], rfl⟩, Ext.refl _, ⟨fun i o hi => (by cases hi), fun i j o p hi => (by cases hi)⟩, k v w w' h1 hp⟩⟩
theorem OwnAt.new {H : List OE} {w w' : World} {g : Nat} {cs : List Value} {t : TypeId} (h : OwnAt H w) (hx : Ext w w') (hg : w.heap.size ≤ g) (hc : w'.heap[g]? = some (.cells cs.toArray t (0, 0))) : OwnAt (newOE H g cs t) w' := by
  have h' := h.ext hx
  rw [newOE_eq]
  have key : ∀ i (o : OE), nth (H ++ [⟨g, cs, t⟩]) i = some o → (nth H i = some o ∧ o.blk < g) ∨ (i = H.length ∧ o = ⟨g, cs, t⟩) := by
    intro i o hi
    rw [nth_eq] at hi
    by_cases hlt : i < H.length
    · rw [List.getElem?_append_left hlt] at hi
      rw [← nth_eq] at hi
      exact .inl ⟨hi, Nat.lt_of_lt_of_le (h.lt hi) hg⟩
    · rw [List.getElem?_append_right (by omega)] at hi
      have : i - H.length = 0 := by
        rcases Nat.eq_zero_or_pos (i - H.length) with h | h
        · exact h
        · rw [List.getElem?_eq_none (by simp; omega)] at hi; cases hi
      rw [this] at hi
      simp only [List.getElem?_cons_zero, Option.some.injEq] at hi
      exact .inr ⟨by omega, hi.symm⟩
  refine ⟨fun i o hi => ?_, fun i j o p hi hj he => ?_⟩
  · rcases key i o hi with ⟨h1, _⟩ | ⟨_, rfl⟩
    · exact h'.1 i o h1
    · exact hc
  · rcases key i o hi with ⟨h1, h2⟩ | ⟨h1, rfl⟩ <;> rcases key j p hj with ⟨h3, h4⟩ | ⟨h3, rfl⟩
    · exact h.2 i j o p h1 h3 he
    · exact absurd he (by simp only; omega)
    · exact absurd he (by simp only; omega)
    · omega
/-- A call that hands back a block whose cells are known. -/
theorem CallV.own1 {f : FuncId} {args : Array Value} {H : List OE} {A : World} {K : Value → List OE → World → Prop} (φ : Nat → Value) (cs : List Value) (t : TypeId)
    (h : ∀ w, Ext A w → OwnAt H w → Calls P f args w (fun e w' => ∃ v, e = .returned v ∧ (∃ g, v = φ g ∧ w.heap.size ≤ g ∧ w'.heap[g]? = some (.cells cs.toArray t (0, 0))) ∧ Ext w w')) (k : ∀ g, A.heap.size ≤ g → newK g cs t H 0 fun _ H' => K (φ g) H' A) : CallV P f args H A K :=
  ⟨fun v w w' => (∃ g, v = φ g ∧ w.heap.size ≤ g ∧ w'.heap[g]? = some (.cells cs.toArray t (0, 0))) ∧ Ext w w', h, fun v w w' h1 h2 ⟨⟨g, hv, hg, hc⟩, hx⟩ => ⟨A, newOE H g cs t, ⟨[⟨g, cs, t⟩], newOE_eq _ _ _ _⟩, h1.trans hx, h2.new hx hg hc, by
    have := k g (Nat.le_trans h1.size hg)
    rw [newK_eq] at this
    rw [hv]; exact this⟩⟩
theorem Made.mk {H : List OE} {A : World} {cells : Array Value} {t : TypeId} {K : Nat → World → Prop} (h : ∀ (g : Nat) (w1 : World), Ext A w1 → A.heap.size ≤ g → g < w1.heap.size → w1.heap[g]? = some (.cells cells t (0, 0)) → OwnNe H g → K g w1) : Made H A cells t K := h
theorem CellsAt.mk {w : World} {b o : Nat} {l : List Value} (h : ∀ i v, l[i]? = some v → w.cell? ⟨b, o + i, none⟩ = some v) : CellsAt w b o l := h
theorem CellsAt.out {w : World} {b o : Nat} {l : List Value} (h : CellsAt w b o l) : ∀ i v, l[i]? = some v → w.cell? ⟨b, o + i, none⟩ = some v := h
theorem CellsAt.ext {w w' : World} {b o : Nat} {l : List Value} (h : CellsAt w b o l) (hx : Ext w w') : CellsAt w' b o l := fun i v hi => cell_ext hx (h i v hi)
theorem MutN.out {w : World} {b o n : Nat} (h : MutN w b o n) : ∀ i, i < n → (∃ u, w.cell? ⟨b, o + i, none⟩ = some u) ∧ w.frozen? ⟨b, o + i, none⟩ = false := h
theorem MutN.mk {w : World} {b o n : Nat} (h : ∀ i, i < n → (∃ u, w.cell? ⟨b, o + i, none⟩ = some u) ∧ w.frozen? ⟨b, o + i, none⟩ = false) : MutN w b o n := h

end
end Go.Proofs.YtbnjjpgacemicaaGreatDoor.Vc
