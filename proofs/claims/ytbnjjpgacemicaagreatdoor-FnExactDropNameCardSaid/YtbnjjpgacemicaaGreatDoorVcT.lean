/-
  The conditions of an operation suffice: the operations that make or write memory.
  Conditions: none.
-/
import Derived.Test.YtbnjjpgacemicaaGreatDoorVcS
import Derived.Laws.AppendOwn
namespace Go.Proofs.YtbnjjpgacemicaaGreatDoor.Vc
open Go.RowKit

section
variable {P : Program} {C : Cx} {st : St} {a : Act} {w : World} {next : Act → World → Prop} {Q : Exit → Act → World → Prop}

theorem setL_same (b : Nat) (l : List Value) : ∀ (w w' : World) (o : Nat), w'.heap[b]? = w.heap[b]? → (setL w' b o l).heap[b]? = (setL w b o l).heap[b]? := by
  induction l with
  | nil => intro w w' o h; exact h
  | cons v r ih =>
    intro w w' o h
    rw [setL, setL]
    refine ih _ _ _ ?_
    simp only [World.setCell, Array.getElem?_modify, h]
theorem Ext.setL {w w' : World} (h : Ext w w') (b o : Nat) (l : List Value) (hb : l = [] ∨ b < w.heap.size) : Ext (setL w b o l) (setL w' b o l) := by
  rcases hb with rfl | hb
  · exact h
  obtain ⟨h1, h2, h3⟩ := setL_rest b l w o
  obtain ⟨g1, g2, g3⟩ := setL_rest b l w' o
  refine ⟨by rw [g1, h1, h.os], by rw [g2, h2, h.tape], by rw [g3, h3, h.output], by rw [setL_size, setL_size]; exact h.size, fun k hk => ?_⟩
  rw [setL_size] at hk
  by_cases hkb : k = b
  · subst hkb; exact setL_same _ l w w' o (h.block _ hk)
  · rw [setL_other b l hkb, setL_other b l hkb, h.block k hk]
theorem OwnAt.setL {H : List OE} {w : World} (h : OwnAt H w) (b o : Nat) (l : List Value) (hn : OwnNe H b) : OwnAt H (setL w b o l) :=
  ⟨fun i x hi => by rw [setL_other b l (hn.out hi), h.1 i x hi], h.2⟩
theorem MutN.ext {w w' : World} (h : Ext w w') {b o n : Nat} (hm : MutN w b o n) : MutN w' b o n := by
  intro i hi
  obtain ⟨⟨u, h1⟩, h2⟩ := hm i hi
  have hb := World.block_lt_of_cell? w _ h1
  exact ⟨⟨u, cell_ext h h1⟩, by rw [h.frozen hb]; exact h2⟩
theorem MutN.lt {w : World} {b o n : Nat} (hm : MutN w b o n) {l : List Value} (hl : l.length = n) : l = [] ∨ b < w.heap.size := by
  cases l with
  | nil => exact .inl rfl
  | cons v r =>
    obtain ⟨⟨u, h1⟩, _⟩ := hm 0 (by simp at hl; omega)
    exact .inr (World.block_lt_of_cell? w _ h1)

theorem run_storeVar {i : TI} (h : TIOk P i) {w : World} {b o : Nat} {v : Value} (hm : MutN w b o i.size) (hs : v.cells.size = i.size) (h1 : ∀ c, c ∈ v.cells.toList → c.oneCell' = true) :
    (Instr.storeAt i.id (.pointer (some ⟨b, o, none⟩)) v).run P w = .ok () (setL w b o v.cells.toList) := by
  have hst := run_storeCells P b o v.cells.toList w 0 (by rw [Array.length_toList, hs]; exact hm) h1
  simp [Instr.storeAt, Instr.sureAddr, storeVar, run_size h, hs, hst]

theorem nth_setOE (H : List OE) (k i : Nat) (cs : List Value) : nth (setOE H k cs) i = (nth H i).map fun x => if i = k then ⟨x.blk, cs, x.ty⟩ else x := by
  induction H generalizing k i with
  | nil => rfl
  | cons x r ih => cases k with
    | zero => cases i with
      | zero => rfl
      | succ i =>
        simp only [setOE, nth]
        cases nth r i <;> simp
    | succ k => cases i with
      | zero => simp [setOE, nth]
      | succ i =>
        simp only [setOE, nth, ih]
        simp
theorem length_setOE (H : List OE) (k : Nat) (cs : List Value) : (setOE H k cs).length = H.length := by
  induction H generalizing k with
  | nil => rfl
  | cons x r ih => cases k <;> simp [setOE, ih]
theorem den_setOE {H : List OE} {k : Nat} {cs : List Value} {s : SV} : den (setOE H k cs) s = den H s := by
  cases s with
  | v x => rfl
  | own i o =>
    simp only [den, nth_setOE]
    cases nth H i with
    | none => rfl
    | some x => simp only [Option.map_some]; split <;> rfl
theorem ok_setOE {H : List OE} {k : Nat} {cs : List Value} {s : SV} (h : s.ok H) : s.ok (setOE H k cs) := by
  cases s with
  | v x => trivial
  | own i o => show i < _; rw [length_setOE]; exact h

theorem Sat.store (hS : Sat C.n st a w) {k o : Nat} {oe : OE} (hk : nth st.own k = some oe) (hb : st.anc.heap.size ≤ oe.blk) (l : List Value) :
    Sat C.n ⟨st.env, setOE st.own k (putL oe.cells o l), st.anc⟩ a (setL w oe.blk o l) := by
  obtain ⟨h1, h2, h3, h4, h5⟩ := hS
  obtain ⟨r1, r2, r3⟩ := setL_rest oe.blk l w o
  refine ⟨h1, h2, fun t s hs => ?_, ?_, ?_, ?_⟩
  · obtain ⟨h6, h7⟩ := h3 t s hs
    exact ⟨ok_setOE h6, by rw [h7]; exact den_setOE.symm⟩
  · refine h4.trans' ⟨r1, r2, r3, by rw [setL_size]; exact Nat.le_refl _, fun j hj => setL_other _ _ (by omega) _ _⟩
  · intro i p hi
    rw [nth_setOE] at hi
    cases hp : nth st.own i with
    | none => rw [hp] at hi; cases hi
    | some q =>
      rw [hp] at hi
      simp only [Option.map_some, Option.some.injEq] at hi
      split at hi
      · rename_i e
        subst e hi
        rw [hk] at hp
        cases hp
        exact setL_here _ _ _ l w o _ (h5.1 _ _ hk)
      · rename_i e
        subst hi
        rw [setL_other _ _ (fun e' => e (h5.2 _ _ _ _ hp hk e'))]
        exact h5.1 _ _ hp
  · intro i j p q hi hj he
    rw [nth_setOE] at hi hj
    cases hp : nth st.own i with
    | none => rw [hp] at hi; cases hi
    | some p' =>
      cases hq : nth st.own j with
      | none => rw [hq] at hj; cases hj
      | some q' =>
        rw [hp] at hi; rw [hq] at hj
        simp only [Option.map_some, Option.some.injEq] at hi hj
        refine h5.2 i j p' q' hp hq ?_
        have e1 : p.blk = p'.blk := by rw [← hi]; split <;> rfl
        have e2 : q.blk = q'.blk := by rw [← hj]; split <;> rfl
        rw [← e1, ← e2, he]

/-- A new block that is not the call's own in the calculus' sense: it belongs to the world that is known from there on. -/
theorem Made.use {cells : Array Value} {t : TypeId} {K : Nat → World → Prop} (h : Made st.own st.anc cells t K) (hS : Sat C.n st a w) (w0 : World) (hw0 : Ext w w0) (hz : w0.heap.size = w.heap.size) :
    K w.heap.size (w0.alloc (.cells cells t)) ∧ Sat C.n ⟨st.env, st.own, w0.alloc (.cells cells t)⟩ a (w0.alloc (.cells cells t)) := by
  have hx : Ext w (w0.alloc (.cells cells t)) := hw0.trans ((Below.refl _ w0).alloc (Nat.le_refl _) _)
  have hO := hS.2.2.2.2
  refine ⟨h _ _ (hS.2.2.2.1.trans hx) hS.2.2.2.1.size ?_ ?_ (OwnNe.of fun i o hi e => ?_), hS.move (Ext.refl _) (hO.ext hx)⟩
  · simp [hz]
  · rw [← hz]; exact Array.getElem?_push_size
  · have := hO.lt hi; omega

theorem run_append_app {i i' ei : TI} {e e' : TypeId} (hI : TIOk P i) (he : i.ty = .slice e) (hI' : TIOk P i') (he' : i'.ty = .slice e') (hE : TIOk P ei) (hid : ei.id = e)
    {p : Option Addr} {len cap : Nat} {p2 : Option Addr} {m c2 : Nat} {K : Value → World → Prop} (h : AppV st.own st.anc e ei.size ei.bytes ei.zero p len cap p2 m K) (hS : Sat C.n st a w) (ty : TypeId) :
    ∃ v A' w', (Builtin.append_ #[i.id, i'.id] ty #[.slice p len cap, .slice p2 m c2]).run P w = .ok v w' ∧ K v A' ∧ Sat C.n ⟨st.env, st.own, A'⟩ a w' := by
  obtain ⟨x, hx1, hx2, hx3, hx4⟩ := info_ok hE
  have h2 := hI.2
  rw [he] at h2
  have h3 : P.underlying i.id = some (.slice e) := h2
  have h2' := hI'.2
  rw [he'] at h2'
  have h3' : P.underlying i'.id = some (.slice e') := h2'
  subst hid
  have hA := hS.2.2.2.1
  obtain ⟨xs, hl, h1, hsrc, hnil, hfit, hgrow⟩ := h
  have hfw : ∀ w0 : World, Ext w w0 → (Builtin.firstCells ei.size m (.slice p2 m c2)).run P w0 = .ok xs.toArray w0 := by
    intro w0 hw0
    cases p2 with
    | none =>
      have : m = 0 := hnil rfl
      subst this
      have : xs = [] := List.eq_nil_of_length_eq_zero (by simpa using hl)
      subst this
      simp [Builtin.firstCells]
    | some q =>
      rcases Nat.eq_zero_or_pos m with hm0 | hm0
      · subst hm0
        have : xs = [] := List.eq_nil_of_length_eq_zero (by simpa using hl)
        subst this
        exact run_firstCells_some (P := P) w0 ei.size 0 q 0 c2 [] (by simp) (fun j u hj => by simp at hj)
      obtain ⟨b, o, rfl, hc⟩ := hsrc q rfl hm0
      exact run_firstCells_some (P := P) w0 ei.size m ⟨b, o, none⟩ m c2 xs hl (fun j u hj => by rw [addr_add]; exact cell_ext (hA.trans hw0) (hc j u hj))
  have hfc := hfw w (Ext.refl w)
  by_cases hroom : len + m ≤ cap
  · obtain ⟨hmut, hK⟩ := hfit hroom
    cases p with
    | none =>
      refine ⟨_, _, w, ?_, hK, hS⟩
      simp [Builtin.append_, underlying, h3, h3', sizeOf, typeInfo, hx1, hx2, Builtin.lenOf, hroom, hfc]
    | some q =>
      obtain ⟨b, o, rfl, hm, hne⟩ := hmut q rfl
      have hst := run_storeCells P b (o + len * ei.size) xs w 0 (by rw [hl]; exact hm.ext hA) h1
      refine ⟨_, _, setL w b (o + len * ei.size) xs, ?_, hK, hS.move (Ext.setL hA _ _ _ (hm.lt hl)) (hS.2.2.2.2.setL _ _ _ hne)⟩
      simp only [Nat.add_zero] at hst
      simp [Builtin.append_, underlying, h3, h3', sizeOf, typeInfo, hx1, hx2, Builtin.lenOf, hroom, hfc, addr_add, hst]
  · obtain ⟨hb, hmax, os, hol, hos, hon, hK⟩ := hgrow (by omega)
    have hge := grownCap_ge w (len + m) cap ei.id
    have hcm : grownCap w (len + m) cap ei.id ≤ 9223372036854775807 := by
      have := grownCap_le_maxLen w (len + m) cap ei.id (by simp only [maxLen]; omega)
      simpa [maxLen] using this
    have hM := (hK _ hge hcm).use hS w.drew ⟨rfl, rfl, rfl, Nat.le_refl _, fun _ _ => rfl⟩ rfl
    refine ⟨_, _, _, ?_, hM.1, hM.2⟩
    have hfo : (Builtin.firstCells ei.size len (.slice p len cap)).run P w.drew = .ok os.toArray w.drew := by
      cases p with
      | none =>
        have : len = 0 := hon rfl
        subst this
        have : os = [] := List.eq_nil_of_length_eq_zero (by simpa using hol)
        subst this
        simp [Builtin.firstCells]
      | some q =>
        obtain ⟨b, o, rfl, hc⟩ := hos q rfl
        exact run_firstCells_some (P := P) w.drew ei.size len ⟨b, o, none⟩ len cap os hol (fun j u hj => by rw [addr_add]; exact cell_ext hA (hc j u hj))
    have hfn := hfw w.drew ⟨rfl, rfl, rfl, Nat.le_refl _, fun _ _ => rfl⟩
    have h63' : ¬ (9223372036854775807 < ((len : Int) + (m : Int))) := by omega
    have hfits := growslice_fits (bytes := x.bytes) (show cap < len + m by omega) (by rw [hx3]; exact hb)
    have h48' : ¬ (281474976710656 < Builtin.nextslicecap (len + m) cap * x.bytes) := by omega
    simp [Builtin.append_, underlying, h3, h3', sizeOf, typeInfo, zeroValue, hx1, hx2, hx4, Builtin.lenOf, hroom, h63', h48', Question.forced, hfo, hfn, newRow, grownCap]
    congr 2
    apply Array.ext'
    simp [List.append_assoc]

theorem newK_eq (b : Nat) (cs : List Value) (t : TypeId) (H : List OE) : ∀ (i : Nat) (K : Nat → List OE → Prop), newK b cs t H i K = K (i + H.length) (newOE H b cs t) := by
  induction H with
  | nil => intro i K; rfl
  | cons x r ih => intro i K; rw [newK, ih, newOE, List.length_cons, show i + 1 + r.length = i + (r.length + 1) by omega]
theorem setK_eq (cs : List Value) (H : List OE) : ∀ (k : Nat) (K : List OE → Prop), setK cs H k K = K (setOE H k cs) := by
  induction H with
  | nil => intro k K; rfl
  | cons x r ih => intro k K; cases k with
    | zero => rfl
    | succ k => rw [setK, ih, setOE]
theorem cellsK_eq (v : Value) (K : List Value → Prop) : cellsK v K = K v.cells.toList := by
  unfold cellsK
  split
  · rw [forceA_eq]; rfl
  · rename_i h; rw [cells_one _ h]

/-- **The conditions of an operation suffice.** -/
theorem stepV_ok (hC : CxOk P C) {o : Oper} {K : SV → St → Prop} (h : stepV P C st o.op K) (hS : Sat C.n st a w)
    (hn : ∀ s st' w', Sat C.n st' a w' → s.ok st'.own → K s st' → next (a.put o.dst (den st'.own s)) w') : o.wp P a w next Q := by
  obtain ⟨dst, op, type, pos, after, guard⟩ := o
  obtain ⟨E, H, A⟩ := st
  simp only at h
  unfold stepV at h
  simp only at h
  split at h
  · rename_i t
    split at h
    · exact h.elim
    · rename_i id ty sz by_ z hi
      obtain ⟨rfl, hI⟩ := get_ok hC.1 hi
      obtain ⟨x, hx1, hx2, hx3, hx4⟩ := info_ok hI
      have hr : (Instr.alloc id true (.tuple #[])).run P w = .ok (.pointer (some ⟨w.heap.size, 0, none⟩)) (w.alloc (.cells z.cells id)) := by
        simp only at hx1 hx4
        simp [Instr.alloc, zeroValue, typeInfo, hx1, hx4, newVar, newRow]
      rw [cellsK_eq] at h
      have h1 := h w.heap.size hS.2.2.2.1.size
      rw [newK_eq] at h1
      unfold Oper.wp execOp
      simp only [Sem.run_bind, hr]
      have hP := hS.push z.cells id
      have := hn (.own (0 + H.length) 0) _ _ hP (by show 0 + H.length < _; rw [newOE_eq]; simp) h1
      rw [show den (newOE H w.heap.size z.cells.toList id) (.own (0 + H.length) 0) = .pointer (some ⟨w.heap.size, 0, none⟩) from by simp [den, newOE_eq, nth_eq]] at this
      exact this
  · rename_i t x
    obtain ⟨v, h1, h2⟩ := onV_ok (st := ⟨E, H, A⟩) h
    rw [cellsK_eq] at h1
    unfold Oper.wp execOp
    have hr : (Instr.box t v).run P w = .ok (.pointer (some ⟨w.heap.size, 0, none⟩)) (w.alloc (.cells v.cells t)) := by
      simp [Instr.box, newVar, newRow]
    simp only [Sem.run_bind, h2 _ a w hS, hr]
    have hP := hS.push v.cells t
    have h3 := h1 w.heap.size hS.2.2.2.1.size
    rw [newK_eq] at h3
    have := hn (.own (0 + H.length) 0) _ _ hP (by show 0 + H.length < _; rw [newOE_eq]; simp) h3
    rw [show den (newOE H w.heap.size v.cells.toList t) (.own (0 + H.length) 0) = .pointer (some ⟨w.heap.size, 0, none⟩) from by simp [den, newOE_eq, nth_eq]] at this
    exact this
  · rename_i t x y
    split at h
    · exact h.elim
    · rename_i id ty sz by_ z hi
      obtain ⟨rfl, hI⟩ := get_ok hC.1 hi
      split at h
      · rename_i k o hx
        split at h
        · exact h.elim
        · rename_i bk cs t' ho
          obtain ⟨v, hv, h6⟩ := onV_ok (st := ⟨E, H, A⟩) h
          rw [cellsK_eq] at hv
          obtain ⟨h1, h2, h3, h4, h5⟩ := hv
          rw [forceA_eq, setK_eq] at h5
          have hcell := hS.2.2.2.2.1 _ _ ho
          have hm : MutN w bk o sz := by
            intro j hj
            have hlt : o + j < cs.length := by omega
            refine ⟨⟨cs[o + j], ?_⟩, ?_⟩
            · exact own_cell (e := ⟨bk, cs, t'⟩) hS.2.2.2.2 ho (by rw [nth_eq]; simp [hlt])
            · simp [World.frozen?, hcell]
          unfold Oper.wp execOp
          simp only [Sem.run_bind, ev_own hS hx ho, h6 _ a w hS, run_storeVar hI hm (by simpa using h2) h4]
          exact hn (.v undef) _ _ (hS.store ho h1 v.cells.toList) trivial h5
      · rename_i b o hx
        obtain ⟨v, hv, h6⟩ := onV_ok (st := ⟨E, H, A⟩) h
        rw [cellsK_eq] at hv
        obtain ⟨h1, h2, h3, h4, h5⟩ := hv
        have hA := hS.2.2.2.1
        unfold Oper.wp execOp
        simp only [Sem.run_bind, ev_v hS hx, h6 _ a w hS, run_storeVar hI (h1.ext hA) (by simpa using h3) h4]
        exact hn (.v undef) _ _ (hS.move (Ext.setL hA _ _ _ (h1.lt h3)) (hS.2.2.2.2.setL _ _ _ h2)) trivial h5
      · exact h.elim
  · rename_i t len parts
    split at h
    · rename_i id e sz by_ z hi
      obtain ⟨rfl, hI⟩ := get_ok hC.1 hi
      split at h
      · exact h.elim
      · rename_i id2 ty2 sz2 by2 z2 hei
        obtain ⟨hid, hE⟩ := get_ok hC.1 hei
        split at h
        · rename_i hr1 hr2 hr3
          obtain ⟨vs, h, hlv, h6⟩ := evL_ok h
          obtain ⟨hM, hsz⟩ := flatK_ok h
          rw [forceA_eq] at hM
          obtain ⟨x, hx1, hx2, hx3, hx4⟩ := info_ok hE
          have h3 : P.underlying id = some (.slice e) := hI.2
          simp only at hid hx1 hx2 hx4
          subst hid
          have hlen : parts.size = len := by
            have := Nat.eq_of_beq_eq_true hr2
            rw [len1_eq] at this
            simpa using this
          have hlv' : vs.length = len := by simpa [hlen] using hlv
          have hle : len * sz2 ≤ 16777216 := Nat.le_of_ble_eq_true hr3
          have hpar : (parts.map fun x => (x.1, a.eval x.2)).toList = (List.range' 0 vs.length).zip vs := by
            have e1 := isRange_ok hr1
            rw [List.length_map, Array.length_toList, hlen] at e1
            rw [hlv', ← e1, ← h6 _ a w hS]
            simp [List.zip_map', List.map_map, Function.comp_def]
          have hrun : (Instr.buildSlice id len (parts.map fun x => (x.1, a.eval x.2))).run P w = .ok (.slice (some ⟨w.heap.size, 0, none⟩) len len) (w.alloc (.cells (vs.flatMap fun v => v.cells.toList).toArray id2)) := by
            have hfill : ∀ z0 : Array Value, z0.size = len * sz2 → Instr.fill (fun i => some (i * sz2, sz2)) z0 (parts.map fun x => (x.1, a.eval x.2)).toList = some (vs.flatMap fun v => v.cells.toList).toArray := by
              intro z0 hz0
              have := fill_range (s := sz2) vs hsz 0 [] z0.toList (by simp) (by rw [Array.length_toList, hz0, hlv'])
              rw [hpar]
              simpa using this
            have hno : ¬ (len * sz2 > 16777216) := by omega
            have hno2 : ¬ (len * sz2 > 2 ^ 24) := by simpa using hno
            by_cases hz : len * sz2 = 0
            · have hf := hfill ((Array.range (len * sz2)).map (#[][· % (#[] : Array Value).size]!)) (by simp)
              simp only [Instr.buildSlice, underlying, sizeOf, typeInfo, Sem.run_bind, run_program, Result.andThen_ok, h3, hx1, hx2, Sem.run_pure, if_neg hno2, if_pos hz, hf]
              rfl
            · have hf := hfill ((Array.range (len * sz2)).map (z2.cells[· % z2.cells.size]!)) (by simp)
              simp only [Instr.buildSlice, underlying, sizeOf, typeInfo, zeroValue, Sem.run_bind, run_program, Result.andThen_ok, h3, hx1, hx2, hx4, Sem.run_pure, if_neg hno2, if_neg hz, hf]
              rfl
          unfold Oper.wp execOp
          simp only [Sem.run_bind, hrun]
          have hU := Made.use (st := ⟨E, H, A⟩) hM hS w (Ext.refl _) rfl
          exact hn (.v _) _ _ hU.2 trivial hU.1
        · exact h.elim
    · exact h.elim
  · rename_i t l cp
    split at h
    · rename_i id e sz by_ z hi
      obtain ⟨rfl, hI⟩ := get_ok hC.1 hi
      split at h
      · exact h.elim
      · rename_i id2 ty2 sz2 by2 z2 hei
        obtain ⟨hid, hE⟩ := get_ok hC.1 hei
        split at h
        · rename_i k n k' n' hl hc
          obtain ⟨N, rfl, rfl, hb, h63, hM⟩ := h
          obtain ⟨x, hx1, hx2, hx3, hx4⟩ := info_ok hE
          have h3 : P.underlying id = some (.slice e) := hI.2
          simp only at hid hx1 hx2 hx3 hx4
          subst hid
          have hb' : (x.bytes : Int) * (N : Int) ≤ 281474976710656 := by
            rw [hx3, ← Int.natCast_mul]; omega
          have hr := run_make (P := P) w id id2 x z2 h3 hx1 hx4 k k' N N (by omega) (by omega) hb' (by omega)
          simp only [Int.toNat_natCast, hx2] at hr
          unfold Oper.wp execOp
          simp only [Sem.run_bind, ev_v hS hl, ev_v hS hc, hr]
          have hU := Made.use (st := ⟨E, H, A⟩) hM hS w (Ext.refl _) rfl
          exact hn (.v _) _ _ hU.2 trivial hU.1
        · exact h.elim
    · exact h.elim
  · rename_i s d x
    split at h
    · rename_i id1 e sz1 by1 z1 id2 sz2 by2 z2 hs hd
      obtain ⟨rfl, hI⟩ := get_ok hC.1 hs
      obtain ⟨rfl, hD⟩ := get_ok hC.1 hd
      split at h
      · rename_i id3 sz3 by3 z3 hei
        obtain ⟨e3, hE⟩ := get_ok hC.1 hei
        split at h
        · rename_i b o len cap hx
          obtain ⟨l, rfl, hc, hK⟩ := h
          have q1 : P.underlying id1 = some (.slice e) := hI.2
          have q2 : P.underlying id2 = some .string := hD.2
          have q3 : P.underlying e = some (.int .u8) := by
            have := hE.2
            rw [e3] at this
            exact this
          have hr := run_convert_bytes_back (P := P) w id1 id2 e ⟨b, o, none⟩ cap l q1 q3 q2 (fun j hj => by
            rw [addr_add]
            refine cell_ext hS.2.2.2.1 (hc j _ ?_)
            simp [hj])
          unfold Oper.wp execOp
          simp only [Sem.run_bind, ev_v hS hx, hr]
          exact hn (.v _) _ _ hS trivial hK
        · exact h.elim
      · exact h.elim
    · exact of_opV hC (o := ⟨dst, .convert s d x, type, pos, after, guard⟩) h hS hn
  · rename_i cl
    split at h
    · exact of_opV hC (o := ⟨dst, .call cl, type, pos, after, guard⟩) h hS hn
    · rename_i hcl
      split at h
      · rename_i x y t t' hargs htys
        split at h
        · rename_i id1 e sz1 by1 z1 id2 e' sz2 by2 z2 hi hi'
          obtain ⟨rfl, hI⟩ := get_ok hC.1 hi
          obtain ⟨rfl, hI'⟩ := get_ok hC.1 hi'
          split at h
          · rename_i id3 ty3 sz3 by3 z3 hei
            obtain ⟨hid, hE⟩ := get_ok hC.1 hei
            split at h
            · rename_i p len cap p2 m c2 hx hy
              obtain ⟨callee, args, argTypes⟩ := cl
              simp only at hcl hargs htys
              have ha : args = #[x, y] := Array.ext' hargs
              have ht : argTypes = #[id1, id2] := Array.ext' htys
              subst hcl ha ht
              obtain ⟨v, A', w', hr, hK, hS'⟩ := run_append_app (st := ⟨E, H, A⟩) (c2 := c2) hI rfl hI' rfl hE hid h hS type
              unfold Oper.wp execOp
              simp only [resolve, invoke, builtin, Sem.run_bind, Sem.run_pure, Result.andThen_ok, List.map_toArray, List.map_cons, List.map_nil, ev_v hS hx, ev_v hS hy, hr]
              exact hn (.v v) _ w' hS' trivial hK
            · exact h.elim
          · exact h.elim
        · exact h.elim
      · exact h.elim
    · exact h.elim
    · obtain ⟨f, args, ⟨Φ, h1, h2⟩, h3⟩ := calleeV_ok hC h
      have hA := hS.2.2.2.1
      have hO := hS.2.2.2.2
      unfold Oper.wp execOp
      simp only [h3 _ a w type hS]
      refine (h1 w hA hO).mono ?_
      rintro e w' ⟨v, rfl, hΦ⟩
      obtain ⟨A', H', ⟨m, rfl⟩, h4, h5, h6⟩ := h2 v w w' hA hO hΦ
      have hS' : Sat C.n ⟨E, H ++ m, A'⟩ a w' := ⟨hS.1, hS.2.1, fun t s hs => let ⟨q1, q2⟩ := hS.2.2.1 t s hs; ⟨ok_append q1, q2.trans (den_append q1).symm⟩, h4, h5⟩
      exact hn (.v v) _ w' hS' trivial h6
  · exact of_opV hC (o := ⟨dst, op, type, pos, after, guard⟩) h hS hn
end
end Go.Proofs.YtbnjjpgacemicaaGreatDoor.Vc
