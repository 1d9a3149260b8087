/-
  Contracts: the small functions on users; sizes, copies and comparison of slices of users.
  Conditions: none.
-/
import Derived.Test.YtifnjinkddelmaaText
import Derived.Test.YtifnjinkddelmaaPlain
import Derived.Deep.Slices
import Derived.Deep.Fields
namespace Go.Proofs.Ytifnjinkddelmaa
open Go.ChangeShapes Go.WideShapes Go.ChangeAt Go.RowKit Go.Deep Vc
attribute [local irreducible] WpC WpL WpD CallV QCallV Made AppV Ld LdN Ix EndV I64 MutN Mut CellsAt

/-- A user: the name, the number, the groups. -/
structure Us where
  name : ByteArray
  num : Int
  grp : Int
def Us.wf (u : Us) : Prop := u.name.size ≤ 9223372036854775807 ∧ (Lit.int .i64 u.num).wf = true ∧ (Lit.int .i64 u.grp).wf = true
@[reducible] def Us.cells (u : Us) : List Value := [.string u.name, .int .i64 u.num, .int .i64 u.grp]
@[reducible] def Us.val (u : Us) : Value := .agg #[.string u.name, .int .i64 u.num, .int .i64 u.grp]
/-- A slice of users. -/
def Uss (w : World) (v : Value) (us : List Us) : Prop := RowN w v 3 (us.map Us.cells)
theorem Uss.ext {w w' : World} {v : Value} {us : List Us} (h : Uss w v us) (hx : Ext w w') : Uss w' v us := RowN.ext h hx
theorem Uss.open {w : World} {v : Value} {us : List Us} (h : Uss w v us) : ∃ ad cap, v = .slice ad us.length cap ∧ us.length ≤ cap ∧ cap ≤ 9223372036854775807 ∧
    (0 < us.length → ∃ b o, ad = some ⟨b, o, none⟩ ∧ b < w.heap.size ∧ ∀ i u, us[i]? = some u → CellsAt w b (o + i * 3) u.cells) := by
  obtain ⟨ad, cap, h1, h2, h3, h4⟩ := h
  rw [List.length_map] at h1 h2 h4
  exact ⟨ad, cap, h1, h2, h3, fun h0 => let ⟨b, o, h5, h6, h7⟩ := h4 h0; ⟨b, o, h5, h6, fun i u hi => (h7 i u.cells (by simp [hi])).1⟩⟩

section
variable {H : Type} {enc : TypeId × Value → H} {P : Program} {w : World} {base : Nat} {spare : Nat → Bool} {held : Bool}
/-- A slice of structs of one-cell fields: each field's cell and its reading. -/
theorem open_slice_fields {t e : TypeId} {fs : Array Field} {fuel : Nat} {cs : List Value} {x : DataW H × List MemPlace} (ht : P.underlying t = some (.slice e)) (he : P.underlying e = some (.struct fs))
    (hone : oneCellFields P fs = true) (hC : P.cellsOf e = fs.size) (h : DataW.trod enc P w base spare held fuel t cs = some x) :
    (cs = [.slice none 0 0] ∧ x = (.nil, [])) ∨
    ∃ (a : Addr) (len cap m : Nat) (D : Nat → DataW H) (Pl : Nat → List MemPlace), cs = [.slice (some a) len cap] ∧ base ≤ a.block ∧ len ≤ cap ∧ cap ≤ maxLen ∧ m = (if spare a.block then cap else len) ∧
      x = (.slice ((List.range len).map D) ((List.range (m - len)).map fun j => D (len + j)), MemPlace.row a (m * fs.size) ++ (List.range m).flatMap Pl) ∧
      ∀ i, i < m → ∃ (ys : List (DataW H × List MemPlace)) (n : Nat), D i = .agg (ys.map (·.1)) ∧ Pl i = ys.flatMap (·.2) ∧ ys.length = fs.size ∧
        ∀ (j : Nat) (f : Field), fs[j]? = some f → ∃ (v : Value) (y : DataW H × List MemPlace), w.cell? (a.add (i * fs.size + j)) = some v ∧ ys[j]? = some y ∧ DataW.trod enc P w base spare held n f.type [v] = some y := by
  rcases open_slice ht h with h0 | ⟨a, len, cap, m, n, D, Pl, hcs, hb, hl, hm, hmm, hx, hi⟩
  · exact .inl h0
  · refine .inr ⟨a, len, cap, m, D, Pl, hcs, hb, hl, hm, hmm, by rw [hC] at hx; exact hx, fun i him => ?_⟩
    obtain ⟨cs', hc, ht'⟩ := hi i him
    rw [hC] at hc
    obtain ⟨ys, n', hn', hy, hlen, hyl, hf⟩ := DataW.trod_struct he ht'
    obtain ⟨_, hcl, hat⟩ := World.cells?_some hc
    simp only [Prod.mk.injEq] at hy
    refine ⟨ys, n', hy.1, hy.2, hyl, fun j f hj => ?_⟩
    obtain ⟨ho, hk⟩ := hone_of hone j f hj
    have hjl : j < fs.size := (Array.getElem?_eq_some_iff.1 hj).1
    have hcell := hat j hjl
    have hv : cs'[j]? = some (cs'[j]'(by omega)) := List.getElem?_eq_getElem (by omega)
    have h1 := hf j f hj
    rw [ho, hk] at h1
    have hone' : (cs'.drop j).take 1 = [cs'[j]'(by omega)] := by
      rw [List.drop_eq_getElem_cons (by omega)]
      rfl
    rw [hone'] at h1
    have hys : ys[j]? = some (ys[j]'(by omega)) := List.getElem?_eq_getElem (by omega)
    refine ⟨_, _, ?_, hys, h1.trans hys⟩
    rw [← Go.Deep.add_add, hcell, hv]
end

theorem cellsUser : Try.prog.cellsOf 80 = 3 := by kernel_rfl
/-- An argument that is a slice of users. -/
theorem open_users {H : Type} {enc : TypeId × Value → H} {W : World} {r : Reach} {b0 base : Nat} {v : Value} {d : DataW H} {p : List MemPlace}
    (hv : Value.okWide Try.prog W r b0 41 v) (h : DataW.Trod enc Try.prog W base (fun _ => true) true 41 v d p) (_hlt : ∀ x ∈ p, x.block < W.heap.size) : ∃ us, Uss W v us ∧ ∀ u ∈ us, u.wf := by
  obtain ⟨a0, len, cap, rfl⟩ := okWide_slice Try.underlying41 hv
  obtain ⟨fuel, hf⟩ := h
  rcases open_slice_fields Try.underlying41 Try.underlying80 (by kernel_rfl) cellsUser hf with ⟨hcs, hx⟩ | ⟨a, len', cap', m, D, Pl, hcs, hb, hl, hm, hmm, hx, hi⟩
  · simp [Value.cells] at hcs
    obtain ⟨rfl, rfl, rfl⟩ := hcs
    exact ⟨[], ⟨none, 0, rfl, Nat.le_refl _, by omega, fun h => absurd h (by simp)⟩, fun u hu => absurd hu (by simp)⟩
  · simp [Value.cells] at hcs
    obtain ⟨rfl, rfl, rfl⟩ := hcs
    simp only [if_true] at hmm
    subst hmm
    have hu : ∀ i, i < len → ∃ u : Us, u.wf ∧ W.cell? (a.add (i * 3 + 0)) = some (.string u.name) ∧ W.cell? (a.add (i * 3 + 1)) = some (.int .i64 u.num) ∧ W.cell? (a.add (i * 3 + 2)) = some (.int .i64 u.grp) := by
      intro i hil
      obtain ⟨ys, n, _, _, _, hf⟩ := hi i (by omega)
      obtain ⟨v0, y0, c0, _, t0⟩ := hf 0 _ rfl
      obtain ⟨v1, y1, c1, _, t1⟩ := hf 1 _ rfl
      obtain ⟨v2, y2, c2, _, t2⟩ := hf 2 _ rfl
      obtain ⟨s, e0, _, hs⟩ := DataW.trod_string Try.underlying9 t0
      obtain ⟨n1, e1, _, w1⟩ := DataW.trod_int Try.underlying3 t1
      obtain ⟨n2, e2, _, w2⟩ := DataW.trod_int Try.underlying3 t2
      simp only [List.cons.injEq, and_true] at e0 e1 e2
      subst e0 e1 e2
      exact ⟨⟨s, n1, n2⟩, ⟨hs, w1, w2⟩, c0, c1, c2⟩
    have hus : ∃ us : List Us, us.length = len ∧ ∀ i u, us[i]? = some u → u.wf ∧ W.cell? (a.add (i * 3 + 0)) = some (.string u.name) ∧ W.cell? (a.add (i * 3 + 1)) = some (.int .i64 u.num) ∧ W.cell? (a.add (i * 3 + 2)) = some (.int .i64 u.grp) := by
      refine ⟨List.ofFn (fun i : Fin len => (hu i.val i.isLt).choose), by simp, fun i u hiu => ?_⟩
      obtain ⟨hil, rfl⟩ := List.getElem?_eq_some_iff.1 hiu
      rw [List.getElem_ofFn]
      exact (hu i (by simpa using hil)).choose_spec
    obtain ⟨us, rfl, hus⟩ := hus
    refine ⟨us, ⟨some a, _, by rw [List.length_map], by rw [List.length_map]; exact hl, by unfold maxLen at hm; exact hm, fun h0 => ?_⟩, fun u hu => ?_⟩
    · rw [List.length_map] at h0
      obtain ⟨_, c0, _, _⟩ := hus 0 _ (List.getElem?_eq_getElem h0)
      obtain ⟨b, off, spot⟩ := a
      have hspot : spot = none := by simpa [Addr.add] using World.cell?_spot c0
      subst hspot
      refine ⟨b, off, rfl, World.block_lt_of_cell? W _ c0, fun i l hi => ?_⟩
      rw [List.getElem?_map] at hi
      cases hu : us[i]? with
      | none => rw [hu] at hi; cases hi
      | some u =>
        rw [hu] at hi
        simp only [Option.map_some, Option.some.injEq] at hi
        subst hi
        obtain ⟨_, c0, c1, c2⟩ := hus i u hu
        rw [add_plain] at c0 c1 c2
        refine ⟨CellsAt.mk fun j v hj => ?_, rfl⟩
        match j with
        | 0 => cases hj; exact c0
        | 1 => cases hj; exact c1
        | 2 => cases hj; exact c2
        | j + 3 => simp at hj
    · obtain ⟨i, hil, rfl⟩ := List.getElem_of_mem hu
      exact (hus i _ (List.getElem?_eq_getElem hil)).1
theorem szUser_vc (u : Us) (n : Int) (w : World) (hs : u.name.size ≤ 9223372036854775807) (h0 : 0 ≤ n) (h1 : n ≤ 1048576) :
    Gives Try.prog 68 #[u.val, .int .i64 n] w (.int .i64 (if n < u.name.size then -1 else n - u.name.size)) := by
  refine calls_of cx_ok Try.func68 Try.ntmps68 Try.results68 rfl rfl ?_
  repeat (first | refine jC ?_ | refine jN ?_ | refine jS ?_ | refine jR ?_ | refine jT ?_ | refine jB ?_ | refine jX rfl ?_ | refine jY rfl ?_ | refine jK ?_ | refine jD ?_ | refine jE ?_)
  intro b hb
  repeat (first | refine jC ?_ | refine jN ?_ | refine jS ?_ | refine jR ?_ | refine jT ?_ | refine jB ?_ | refine jX rfl ?_ | refine jY rfl ?_ | refine jK ?_ | refine jD ?_ | refine jE ?_)
  refine ⟨I64.mk (by omega), ?_⟩
  repeat (first | refine jC ?_ | refine jN ?_ | refine jS ?_ | refine jR ?_ | refine jT ?_ | refine jB ?_ | refine jX rfl ?_ | refine jY rfl ?_ | refine jK ?_ | refine jD ?_ | refine jE ?_)
  refine Br.intro (fun h => ?_) (fun h => ?_)
  · repeat (first | refine jC ?_ | refine jN ?_ | refine jS ?_ | refine jR ?_ | refine jT ?_ | refine jB ?_ | refine jX rfl ?_ | refine jY rfl ?_ | refine jK ?_ | refine jD ?_ | refine jE ?_)
    refine EndV.val ?_ (Ext.refl _)
    rw [if_pos (by have := of_decide_eq_true h; omega)]
  · repeat (first | refine jC ?_ | refine jN ?_ | refine jS ?_ | refine jR ?_ | refine jT ?_ | refine jB ?_ | refine jX rfl ?_ | refine jY rfl ?_ | refine jK ?_ | refine jD ?_ | refine jE ?_)
    refine EndV.val ?_ (Ext.refl _)
    rw [if_neg (by have := of_decide_eq_false h; omega)]
theorem toUser_vc (u : Us) (w : World) : Gives Try.prog 70 #[u.val] w u.val := by
  refine calls_of cx_ok Try.func70 Try.ntmps70 Try.results70 rfl rfl ?_
  repeat (first | refine jC ?_ | refine jN ?_ | refine jS ?_ | refine jR ?_ | refine jT ?_ | refine jB ?_ | refine jX rfl ?_ | refine jY rfl ?_ | refine jK ?_ | refine jD ?_ | refine jE ?_)
  intro b hb
  repeat (first | refine jC ?_ | refine jN ?_ | refine jS ?_ | refine jR ?_ | refine jT ?_ | refine jB ?_ | refine jX rfl ?_ | refine jY rfl ?_ | refine jK ?_ | refine jD ?_ | refine jE ?_)
  intro b2 hb2
  repeat (first | refine jC ?_ | refine jN ?_ | refine jS ?_ | refine jR ?_ | refine jT ?_ | refine jB ?_ | refine jX rfl ?_ | refine jY rfl ?_ | refine jK ?_ | refine jD ?_ | refine jE ?_)
  intro b3 hb3
  repeat (first | refine jC ?_ | refine jN ?_ | refine jS ?_ | refine jR ?_ | refine jT ?_ | refine jB ?_ | refine jX rfl ?_ | refine jY rfl ?_ | refine jK ?_ | refine jD ?_ | refine jE ?_)
  refine ⟨by assumption, rfl, by simp, by simp [Value.oneCell'], ?_⟩
  repeat (first | refine jC ?_ | refine jN ?_ | refine jS ?_ | refine jR ?_ | refine jT ?_ | refine jB ?_ | refine jX rfl ?_ | refine jY rfl ?_ | refine jK ?_ | refine jD ?_ | refine jE ?_)
  refine ⟨by assumption, rfl, by simp, by simp [Value.oneCell'], ?_⟩
  repeat (first | refine jC ?_ | refine jN ?_ | refine jS ?_ | refine jR ?_ | refine jT ?_ | refine jB ?_ | refine jX rfl ?_ | refine jY rfl ?_ | refine jK ?_ | refine jD ?_ | refine jE ?_)
  refine ⟨by assumption, rfl, by simp, by simp [Value.oneCell'], ?_⟩
  repeat (first | refine jC ?_ | refine jN ?_ | refine jS ?_ | refine jR ?_ | refine jT ?_ | refine jB ?_ | refine jX rfl ?_ | refine jY rfl ?_ | refine jK ?_ | refine jD ?_ | refine jE ?_)
  refine ⟨by assumption, rfl, by simp, by simp [Value.oneCell'], ?_⟩
  repeat (first | refine jC ?_ | refine jN ?_ | refine jS ?_ | refine jR ?_ | refine jT ?_ | refine jB ?_ | refine jX rfl ?_ | refine jY rfl ?_ | refine jK ?_ | refine jD ?_ | refine jE ?_)
  exact EndV.val rfl (Ext.refl _)
def Us.eq (a b : Us) : Bool := (a.name.toList == b.name.toList) && (a.num == b.num) && (a.grp == b.grp)
theorem Us.eq_self (u : Us) : u.eq u = true := by simp [Us.eq]
theorem eqUser_vc (a b : Us) (w : World) : Gives Try.prog 73 #[a.val, b.val] w (.bool (a.eq b)) := by
  refine calls_of cx_ok Try.func73 Try.ntmps73 Try.results73 rfl rfl ?_
  repeat (first | refine jC ?_ | refine jN ?_ | refine jS ?_ | refine jR ?_ | refine jT ?_ | refine jB ?_ | refine jX rfl ?_ | refine jY rfl ?_ | refine jK ?_ | refine jD ?_ | refine jE ?_)
  intro b1 hb1
  repeat (first | refine jC ?_ | refine jN ?_ | refine jS ?_ | refine jR ?_ | refine jT ?_ | refine jB ?_ | refine jX rfl ?_ | refine jY rfl ?_ | refine jK ?_ | refine jD ?_ | refine jE ?_)
  intro b2 hb2
  repeat (first | refine jC ?_ | refine jN ?_ | refine jS ?_ | refine jR ?_ | refine jT ?_ | refine jB ?_ | refine jX rfl ?_ | refine jY rfl ?_ | refine jK ?_ | refine jD ?_ | refine jE ?_)
  refine Br.intro (fun h1 => ?_) (fun h1 => ?_)
  · repeat (first | refine jC ?_ | refine jN ?_ | refine jS ?_ | refine jR ?_ | refine jT ?_ | refine jB ?_ | refine jX rfl ?_ | refine jY rfl ?_ | refine jK ?_ | refine jD ?_ | refine jE ?_)
    refine EndV.val ?_ (Ext.refl _)
    simp_all [Us.eq]
  repeat (first | refine jC ?_ | refine jN ?_ | refine jS ?_ | refine jR ?_ | refine jT ?_ | refine jB ?_ | refine jX rfl ?_ | refine jY rfl ?_ | refine jK ?_ | refine jD ?_ | refine jE ?_)
  refine Br.intro (fun h2 => ?_) (fun h2 => ?_)
  · repeat (first | refine jC ?_ | refine jN ?_ | refine jS ?_ | refine jR ?_ | refine jT ?_ | refine jB ?_ | refine jX rfl ?_ | refine jY rfl ?_ | refine jK ?_ | refine jD ?_ | refine jE ?_)
    refine EndV.val ?_ (Ext.refl _)
    simp_all [Us.eq]
  repeat (first | refine jC ?_ | refine jN ?_ | refine jS ?_ | refine jR ?_ | refine jT ?_ | refine jB ?_ | refine jX rfl ?_ | refine jY rfl ?_ | refine jK ?_ | refine jD ?_ | refine jE ?_)
  refine Br.intro (fun h3 => ?_) (fun h3 => ?_)
  · repeat (first | refine jC ?_ | refine jN ?_ | refine jS ?_ | refine jR ?_ | refine jT ?_ | refine jB ?_ | refine jX rfl ?_ | refine jY rfl ?_ | refine jK ?_ | refine jD ?_ | refine jE ?_)
    refine EndV.val ?_ (Ext.refl _)
    simp_all [Us.eq]
  · repeat (first | refine jC ?_ | refine jN ?_ | refine jS ?_ | refine jR ?_ | refine jT ?_ | refine jB ?_ | refine jX rfl ?_ | refine jY rfl ?_ | refine jK ?_ | refine jD ?_ | refine jE ?_)
    refine EndV.val ?_ (Ext.refl _)
    simp_all [Us.eq]
/-- What is left of a sum when names are taken off. -/
def szGo : List Us → Int → Int
  | [], n => n
  | u :: r, n => if n < u.name.size then -1 else szGo r (n - u.name.size)
def szUs (us : List Us) (n : Int) : Int := if n < us.length then -1 else szGo us (n - us.length)
theorem szGo_step {us : List Us} {k : Nat} {u : Us} (h : us[k]? = some u) (n : Int) : szGo (us.drop k) n = if n < u.name.size then -1 else szGo (us.drop (k + 1)) (n - u.name.size) := by
  obtain ⟨h1, rfl⟩ := List.getElem?_eq_some_iff.1 h
  rw [List.drop_eq_getElem_cons h1, szGo]
theorem szUserS_vc (us : List Us) (v : Value) (n : Int) (w : World) (hU : Uss w v us) (hwf : ∀ u ∈ us, u.wf) (h0 : 0 ≤ n) (h1 : n ≤ 1048576) :
    Gives Try.prog 26 #[v, .int .i64 n] w (.int .i64 (szUs us n)) := by
  obtain ⟨ad, cap, rfl, hlc, hcm, hat⟩ := hU.open
  refine calls_of cx_ok Try.func26 Try.ntmps26 Try.results26 rfl rfl ?_
  repeat (first | refine jC ?_ | refine jN ?_ | refine jS ?_ | refine jR ?_ | refine jT ?_ | refine jB ?_ | refine jX rfl ?_ | refine jY rfl ?_ | refine jK ?_ | refine jD ?_ | refine jE ?_)
  refine ⟨I64.mk (by omega), ?_⟩
  repeat (first | refine jC ?_ | refine jN ?_ | refine jS ?_ | refine jR ?_ | refine jT ?_ | refine jB ?_ | refine jX rfl ?_ | refine jY rfl ?_ | refine jK ?_ | refine jD ?_ | refine jE ?_)
  refine Br.intro (fun h => ?_) (fun h => ?_)
  · repeat (first | refine jC ?_ | refine jN ?_ | refine jS ?_ | refine jR ?_ | refine jT ?_ | refine jB ?_ | refine jX rfl ?_ | refine jY rfl ?_ | refine jK ?_ | refine jD ?_ | refine jE ?_)
    refine EndV.val ?_ (Ext.refl _)
    rw [szUs, if_pos (by have := of_decide_eq_true h; omega)]
  repeat (first | refine jC ?_ | refine jN ?_ | refine jS ?_ | refine jR ?_ | refine jT ?_ | refine jB ?_ | refine jX rfl ?_ | refine jY rfl ?_ | refine jK ?_ | refine jD ?_ | refine jE ?_)
  have hn := of_decide_eq_false h
  refine WpC.loop (α := Nat × Int) (fun x => ⟨[(0, .v (.slice ad us.length cap)), (5, .v (.int .i64 (x.1 : Int))), (1, .v (.int .i64 x.2))], [], w⟩)
    (fun x => x.1 ≤ us.length ∧ 0 ≤ x.2 ∧ x.2 ≤ 1048576 ∧ szGo (us.drop x.1) x.2 = szGo us (n - us.length)) (fun x => us.length - x.1) (0, n - us.length) ⟨by omega, by show 0 ≤ n - _; omega, by show n - _ ≤ _; omega, rfl⟩
    ⟨⟨rfl, rfl, rfl, trivial⟩, trivial, trivial, Ext.refl _⟩ ?_
  rintro ⟨k, m⟩ ⟨hk, hm0, hm1, hg⟩
  repeat (first | refine jC ?_ | refine jN ?_ | refine jS ?_ | refine jR ?_ | refine jT ?_ | refine jB ?_ | refine jX rfl ?_ | refine jY rfl ?_ | refine jK ?_ | refine jD ?_ | refine jE ?_)
  refine Br.intro (fun h => ?_) (fun h => ?_)
  · have hlt : k < us.length := by have := of_decide_eq_true h; omega
    obtain ⟨b, o, rfl, hb, hc⟩ := hat (by omega)
    have hu : us[k]? = some us[k] := List.getElem?_eq_getElem hlt
    repeat (first | refine jC ?_ | refine jN ?_ | refine jS ?_ | refine jR ?_ | refine jT ?_ | refine jB ?_ | refine jX rfl ?_ | refine jY rfl ?_ | refine jK ?_ | refine jD ?_ | refine jE ?_)
    refine Ix.mk k rfl hlt ?_
    repeat (first | refine jC ?_ | refine jN ?_ | refine jS ?_ | refine jR ?_ | refine jT ?_ | refine jB ?_ | refine jX rfl ?_ | refine jY rfl ?_ | refine jK ?_ | refine jD ?_ | refine jE ?_)
    refine LdN.mk (hc k _ hu) rfl ?_
    repeat (first | refine jC ?_ | refine jN ?_ | refine jS ?_ | refine jR ?_ | refine jT ?_ | refine jB ?_ | refine jX rfl ?_ | refine jY rfl ?_ | refine jK ?_ | refine jD ?_ | refine jE ?_)
    have hw := hwf _ (List.getElem_mem hlt)
    rw [szGo_step hu] at hg
    by_cases hmn : m < us[k].name.size
    · rw [if_pos hmn] at hg
      refine CallV.val (v := .int .i64 (-1)) (fun w' _ _ => by have := szUser_vc us[k] m w' hw.1 hm0 hm1; rwa [if_pos hmn] at this) ?_
      repeat (first | refine jC ?_ | refine jN ?_ | refine jS ?_ | refine jR ?_ | refine jT ?_ | refine jB ?_ | refine jX rfl ?_ | refine jY rfl ?_ | refine jK ?_ | refine jD ?_ | refine jE ?_)
      exact EndV.val (by rw [szUs, if_neg (by omega), ← hg]) (Ext.refl _)
    · rw [if_neg hmn] at hg
      refine CallV.val (v := .int .i64 (m - us[k].name.size)) (fun w' _ _ => by have := szUser_vc us[k] m w' hw.1 hm0 hm1; rwa [if_neg hmn] at this) ?_
      repeat (first | refine jC ?_ | refine jN ?_ | refine jS ?_ | refine jR ?_ | refine jT ?_ | refine jB ?_ | refine jX rfl ?_ | refine jY rfl ?_ | refine jK ?_ | refine jD ?_ | refine jE ?_)
      refine Br.no (by simp; omega) ?_
      repeat (first | refine jC ?_ | refine jN ?_ | refine jS ?_ | refine jR ?_ | refine jT ?_ | refine jB ?_ | refine jX rfl ?_ | refine jY rfl ?_ | refine jK ?_ | refine jD ?_ | refine jE ?_)
      refine ⟨I64.mk (by omega), ?_⟩
      repeat (first | refine jC ?_ | refine jN ?_ | refine jS ?_ | refine jR ?_ | refine jT ?_ | refine jB ?_ | refine jX rfl ?_ | refine jY rfl ?_ | refine jK ?_ | refine jD ?_ | refine jE ?_)
      exact ⟨(k + 1, m - us[k].name.size), ⟨hlt, by show 0 ≤ m - _; omega, by show m - _ ≤ _; omega, hg⟩, by show us.length - (k + 1) < us.length - k; omega, ⟨rfl, rfl, rfl, trivial⟩, trivial, trivial, Ext.refl _⟩
  · have hke : k = us.length := by have := of_decide_eq_false h; omega
    subst hke
    rw [List.drop_length, szGo] at hg
    repeat (first | refine jC ?_ | refine jN ?_ | refine jS ?_ | refine jR ?_ | refine jT ?_ | refine jB ?_ | refine jX rfl ?_ | refine jY rfl ?_ | refine jK ?_ | refine jD ?_ | refine jE ?_)
    exact EndV.val (by rw [szUs, if_neg (by omega), ← hg]) (Ext.refl _)
theorem szGo_le (us : List Us) : ∀ n : Int, szGo us n ≤ n ∨ n < 0 := by
  induction us with
  | nil => intro n; exact .inl (Int.le_refl _)
  | cons u r ih =>
    intro n
    simp only [szGo]
    split
    · omega
    · rcases ih (n - u.name.size) with h | h
      · exact .inl (by omega)
      · omega
theorem szUs_len {us : List Us} {n : Int} (h : ¬ szUs us n < 0) : us.length ≤ n.toNat := by
  unfold szUs at h
  split at h <;> omega
theorem toUserS_vc (us : List Us) (v : Value) (w : World) (hU : Uss w v us) (hl : us.length ≤ 1048576) :
    Calls Try.prog 28 #[v] w fun e w' => ∃ v', e = .returned v' ∧ (Uss w' v' us ∧ ∃ g, w.heap.size ≤ g ∧ g < w'.heap.size ∧ WrN w' v' us.length 3 g) ∧ Ext w w' := by
  obtain ⟨ad, cap, rfl, hlc, hcm, hat⟩ := hU.open
  refine calls_of cx_ok Try.func28 Try.ntmps28 Try.results28 rfl rfl ?_
  repeat (first | refine jC ?_ | refine jN ?_ | refine jS ?_ | refine jR ?_ | refine jT ?_ | refine jB ?_ | refine jX rfl ?_ | refine jY rfl ?_ | refine jK ?_ | refine jD ?_ | refine jE ?_)
  refine ⟨us.length, rfl, rfl, by omega, by omega, Made.mk fun g w1 hx1 hg1 hg2 hg3 _ => ?_⟩
  repeat (first | refine jC ?_ | refine jN ?_ | refine jS ?_ | refine jR ?_ | refine jT ?_ | refine jB ?_ | refine jX rfl ?_ | refine jY rfl ?_ | refine jK ?_ | refine jD ?_ | refine jE ?_)
  refine WpC.loop (α := Nat × World) (fun x => ⟨[(0, .v (.slice ad us.length cap)), (4, .v (.int .i64 (x.1 : Int))), (3, .v (.slice (some ⟨g, 0, none⟩) us.length us.length))], [], x.2⟩)
    (fun x => x.1 ≤ us.length ∧ Below g w1 x.2 ∧ Part x.2 g us.length 3 (us.map Us.cells) x.1) (fun x => us.length - x.1) (0, w1)
    ⟨Nat.zero_le _, Below.refl _ _, Part.new hg2 hg3 (size_madeCells _ _)⟩ ⟨⟨rfl, rfl, rfl, trivial⟩, trivial, trivial, Ext.refl _⟩ ?_
  rintro ⟨k, wk⟩ ⟨hk, hbk, hp⟩
  repeat (first | refine jC ?_ | refine jN ?_ | refine jS ?_ | refine jR ?_ | refine jT ?_ | refine jB ?_ | refine jX rfl ?_ | refine jY rfl ?_ | refine jK ?_ | refine jD ?_ | refine jE ?_)
  refine Br.intro (fun h => ?_) (fun h => ?_)
  · have hlt : k < us.length := by have := of_decide_eq_true h; omega
    obtain ⟨b, o, rfl, hb, hc⟩ := hat (by omega)
    have hu : us[k]? = some us[k] := List.getElem?_eq_getElem hlt
    repeat (first | refine jC ?_ | refine jN ?_ | refine jS ?_ | refine jR ?_ | refine jT ?_ | refine jB ?_ | refine jX rfl ?_ | refine jY rfl ?_ | refine jK ?_ | refine jD ?_ | refine jE ?_)
    refine Ix.mk k rfl hlt ?_
    repeat (first | refine jC ?_ | refine jN ?_ | refine jS ?_ | refine jR ?_ | refine jT ?_ | refine jB ?_ | refine jX rfl ?_ | refine jY rfl ?_ | refine jK ?_ | refine jD ?_ | refine jE ?_)
    refine LdN.mk (((hc k _ hu).ext hx1).below hbk (.inr (Nat.lt_of_lt_of_le hb hg1))) rfl ?_
    repeat (first | refine jC ?_ | refine jN ?_ | refine jS ?_ | refine jR ?_ | refine jT ?_ | refine jB ?_ | refine jX rfl ?_ | refine jY rfl ?_ | refine jK ?_ | refine jD ?_ | refine jE ?_)
    refine CallV.val (fun w' _ _ => toUser_vc us[k] w') ?_
    repeat (first | refine jC ?_ | refine jN ?_ | refine jS ?_ | refine jR ?_ | refine jT ?_ | refine jB ?_ | refine jX rfl ?_ | refine jY rfl ?_ | refine jK ?_ | refine jD ?_ | refine jE ?_)
    refine Ix.mk k rfl hlt ?_
    repeat (first | refine jC ?_ | refine jN ?_ | refine jS ?_ | refine jR ?_ | refine jT ?_ | refine jB ?_ | refine jX rfl ?_ | refine jY rfl ?_ | refine jK ?_ | refine jD ?_ | refine jE ?_)
    refine ⟨by rw [Nat.zero_add]; have := hp.room.sub (k := k * 3) (m := 3) (by omega); rwa [Nat.zero_add] at this, trivial, rfl, by simp [Value.oneCell'], ?_⟩
    repeat (first | refine jC ?_ | refine jN ?_ | refine jS ?_ | refine jR ?_ | refine jT ?_ | refine jB ?_ | refine jX rfl ?_ | refine jY rfl ?_ | refine jK ?_ | refine jD ?_ | refine jE ?_)
    refine ⟨I64.mk (by omega), ?_⟩
    repeat (first | refine jC ?_ | refine jN ?_ | refine jS ?_ | refine jR ?_ | refine jT ?_ | refine jB ?_ | refine jX rfl ?_ | refine jY rfl ?_ | refine jK ?_ | refine jD ?_ | refine jE ?_)
    exact ⟨(k + 1, setL wk g (0 + k * 3) us[k].cells), ⟨hlt, below_setL hbk (Nat.le_refl _) _ _, by show Part (setL wk g (0 + k * 3) us[k].cells) g us.length 3 (us.map Us.cells) (k + 1); rw [Nat.zero_add]; exact hp.step (l := us[k].cells) hlt (by simp [hu]) rfl⟩, by show us.length - (k + 1) < us.length - k; omega, ⟨rfl, rfl, rfl, trivial⟩, trivial, trivial, Ext.refl _⟩
  · have hke : k = us.length := by have := of_decide_eq_false h; omega
    subst hke
    repeat (first | refine jC ?_ | refine jN ?_ | refine jS ?_ | refine jR ?_ | refine jT ?_ | refine jB ?_ | refine jX rfl ?_ | refine jY rfl ?_ | refine jK ?_ | refine jD ?_ | refine jE ?_)
    refine EndV.mk fun w' hw' => ⟨_, rfl, ⟨RowN.ext ?_ hw', g, hg1, by have := hbk.size; have := hw'.size; dsimp only at *; omega, _, _, rfl, Nat.le_refl _, by omega, fun _ => ⟨0, rfl, hp.room.ext hw'⟩⟩, (hx1.trans' ((hbk.mono hg1))).trans hw'⟩
    have hp' : Part wk g (us.map Us.cells).length 3 (us.map Us.cells) (us.map Us.cells).length := by simpa using hp
    have := hp'.rowN (by simp; omega)
    simpa using this
theorem eqUserS_vc (us vs : List Us) (v v' : Value) (w : World) (hU : Uss w v us) (hV : Uss w v' vs) (h : us = vs) :
    Gives Try.prog 30 #[v, v'] w (.bool true) := by
  subst h
  obtain ⟨ad, cap, rfl, hlc, hcm, hat⟩ := hU.open
  obtain ⟨ad', cap', rfl, hlc', hcm', hat'⟩ := hV.open
  refine calls_of cx_ok Try.func30 Try.ntmps30 Try.results30 rfl rfl ?_
  repeat (first | refine jC ?_ | refine jN ?_ | refine jS ?_ | refine jR ?_ | refine jT ?_ | refine jB ?_ | refine jX rfl ?_ | refine jY rfl ?_ | refine jK ?_ | refine jD ?_ | refine jE ?_)
  refine Br.no (by simp) ?_
  repeat (first | refine jC ?_ | refine jN ?_ | refine jS ?_ | refine jR ?_ | refine jT ?_ | refine jB ?_ | refine jX rfl ?_ | refine jY rfl ?_ | refine jK ?_ | refine jD ?_ | refine jE ?_)
  refine WpC.loop (α := Nat) (fun x => ⟨[(0, .v (.slice ad us.length cap)), (1, .v (.slice ad' us.length cap')), (5, .v (.int .i64 (x : Int)))], [], w⟩)
    (fun x => x ≤ us.length) (fun x => us.length - x) 0 (Nat.zero_le _) ⟨⟨rfl, rfl, rfl, trivial⟩, trivial, trivial, Ext.refl _⟩ ?_
  intro k hk
  repeat (first | refine jC ?_ | refine jN ?_ | refine jS ?_ | refine jR ?_ | refine jT ?_ | refine jB ?_ | refine jX rfl ?_ | refine jY rfl ?_ | refine jK ?_ | refine jD ?_ | refine jE ?_)
  refine Br.intro (fun h => ?_) (fun h => ?_)
  · have hlt : k < us.length := by have := of_decide_eq_true h; omega
    obtain ⟨b, o, rfl, hb, hc⟩ := hat (by omega)
    obtain ⟨b', o', rfl, hb', hc'⟩ := hat' (by omega)
    have hu : us[k]? = some us[k] := List.getElem?_eq_getElem hlt
    repeat (first | refine jC ?_ | refine jN ?_ | refine jS ?_ | refine jR ?_ | refine jT ?_ | refine jB ?_ | refine jX rfl ?_ | refine jY rfl ?_ | refine jK ?_ | refine jD ?_ | refine jE ?_)
    refine WpC.draw (by kernel_rfl) ?_
    repeat (first | refine jC ?_ | refine jN ?_ | refine jS ?_ | refine jR ?_ | refine jT ?_ | refine jB ?_ | refine jX rfl ?_ | refine jY rfl ?_ | refine jK ?_ | refine jD ?_ | refine jE ?_)
    refine Ix.mk k rfl hlt ?_
    repeat (first | refine jC ?_ | refine jN ?_ | refine jS ?_ | refine jR ?_ | refine jT ?_ | refine jB ?_ | refine jX rfl ?_ | refine jY rfl ?_ | refine jK ?_ | refine jD ?_ | refine jE ?_)
    refine LdN.mk (hc k _ hu) rfl ?_
    repeat (first | refine jC ?_ | refine jN ?_ | refine jS ?_ | refine jR ?_ | refine jT ?_ | refine jB ?_ | refine jX rfl ?_ | refine jY rfl ?_ | refine jK ?_ | refine jD ?_ | refine jE ?_)
    refine Ix.mk k rfl hlt ?_
    repeat (first | refine jC ?_ | refine jN ?_ | refine jS ?_ | refine jR ?_ | refine jT ?_ | refine jB ?_ | refine jX rfl ?_ | refine jY rfl ?_ | refine jK ?_ | refine jD ?_ | refine jE ?_)
    refine LdN.mk (hc' k _ hu) rfl ?_
    repeat (first | refine jC ?_ | refine jN ?_ | refine jS ?_ | refine jR ?_ | refine jT ?_ | refine jB ?_ | refine jX rfl ?_ | refine jY rfl ?_ | refine jK ?_ | refine jD ?_ | refine jE ?_)
    refine QCallV.val (v := .bool true) (fun w' _ _ => by have := eqUser_vc us[k] us[k] w'; rwa [Us.eq_self] at this) ?_
    repeat (first | refine jC ?_ | refine jN ?_ | refine jS ?_ | refine jR ?_ | refine jT ?_ | refine jB ?_ | refine jX rfl ?_ | refine jY rfl ?_ | refine jK ?_ | refine jD ?_ | refine jE ?_)
    refine ⟨I64.mk (by omega), ?_⟩
    repeat (first | refine jC ?_ | refine jN ?_ | refine jS ?_ | refine jR ?_ | refine jT ?_ | refine jB ?_ | refine jX rfl ?_ | refine jY rfl ?_ | refine jK ?_ | refine jD ?_ | refine jE ?_)
    exact ⟨k + 1, hlt, by show us.length - (k + 1) < us.length - k; omega, ⟨rfl, rfl, rfl, trivial⟩, trivial, trivial, Ext.refl _⟩
  · repeat (first | refine jC ?_ | refine jN ?_ | refine jS ?_ | refine jR ?_ | refine jT ?_ | refine jB ?_ | refine jX rfl ?_ | refine jY rfl ?_ | refine jK ?_ | refine jD ?_ | refine jE ?_)
    exact EndV.val rfl (Ext.refl _)
end Go.Proofs.Ytifnjinkddelmaa
