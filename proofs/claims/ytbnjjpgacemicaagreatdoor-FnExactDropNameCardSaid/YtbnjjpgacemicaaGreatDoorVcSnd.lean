/-
  An operation whose conditions hold yields its value in every world that is known so far.
  Conditions: none.
-/
import Derived.Test.YtbnjjpgacemicaaGreatDoorVcOp
namespace Go.Proofs.YtbnjjpgacemicaaGreatDoor.Vc
open Go.RowKit

section
variable {P : Program} {T : List TI} {st : St}

theorem onS_ok {x : Operand} {K : SV → Prop} (h : onS (ev st x) K) : ∃ s, ev st x = some s ∧ K s := by
  cases hx : ev st x with
  | none => rw [hx] at h; exact h.elim
  | some s => rw [hx] at h; exact ⟨s, rfl, h⟩

theorem info_ok {i : TI} (h : TIOk P i) : ∃ x, P.info? i.id = some x ∧ x.size = i.size ∧ x.bytes = i.bytes ∧ x.zero = some i.zero := by
  have h1 := h.1
  cases hx : P.info? i.id with
  | none => rw [hx] at h1; cases h1
  | some x =>
    rw [hx] at h1
    simp only [Option.map_some, Option.some.injEq, Prod.mk.injEq] at h1
    exact ⟨x, rfl, h1⟩
theorem not_agg {i : TI} (h : TIOk P i) (hn : ∀ fs, i.ty ≠ .struct fs) (w : World) : (isAgg i.id).run P w = .ok false w := by
  have h2 := h.2
  unfold TyOk at h2
  split at h2
  · simp [isAgg, underlying, h2]
  · simp [isAgg, underlying, h2]
  · simp [isAgg, underlying, h2]
  · simp [isAgg, underlying, h2]
  · obtain ⟨e, h2⟩ := h2; simp [isAgg, underlying, h2]
  · exact absurd (by assumption) (hn _)
  · obtain ⟨d, h2, h3⟩ := h2
    simp only [isAgg, underlying, Sem.run_bind, run_program, Result.andThen_ok, h2]
    cases d <;> first | exact h3.elim | simp
theorem is_agg {i : TI} (h : TIOk P i) {fs : List Nat} (hn : i.ty = .struct fs) (w : World) : (isAgg i.id).run P w = .ok true w := by
  have h2 := h.2
  rw [hn] at h2
  obtain ⟨F, h2, _⟩ := h2
  simp [isAgg, underlying, h2]
theorem run_size {i : TI} (h : TIOk P i) (w : World) : (sizeOf i.id).run P w = .ok i.size w := by
  obtain ⟨x, h1, h2, _⟩ := info_ok h
  simp [sizeOf, typeInfo, h1, h2]
theorem field_ok {i : TI} (h : TIOk P i) {fs : List Nat} (hn : i.ty = .struct fs) {f n : Nat} (hf : nth fs f = some n) :
    ∃ (F : Array Field) (g : Field), P.underlying i.id = some (.struct F) ∧ F[f]? = some g ∧ g.offset = n ∧ (∀ w, (sizeOf g.type).run P w = .ok 1 w) ∧ (∀ w, (isAgg g.type).run P w = .ok false w) := by
  have h2 := h.2
  rw [hn] at h2
  obtain ⟨F, h2, _, h3⟩ := h2
  obtain ⟨g, h4, h5, j, h6, h7, d, h8, h9⟩ := h3 f n hf
  refine ⟨F, g, h2, h4, h5, fun w => by simp [sizeOf, typeInfo, h6, h7], fun w => ?_⟩
  simp only [isAgg, underlying, Sem.run_bind, run_program, Result.andThen_ok, h8]
  cases d <;> first | exact h9.elim | simp

theorem run_loadAt1 {i : TI} (h : TIOk P i) (hn : ∀ fs, i.ty ≠ .struct fs) {w : World} {p : Addr} {v : Value} (hc : w.cell? p = some v) :
    (Instr.loadAt i.id (.pointer (some p))).run P w = .ok v w := by
  simp [Instr.loadAt, Instr.sureAddr, loadVar, not_agg h hn, hc]
theorem run_loadAtN {i : TI} (h : TIOk P i) {fs : List Nat} (hn : i.ty = .struct fs) {w : World} {b o : Nat} {l : List Value} (hl : l.length = i.size) (hc : CellsAt w b o l) :
    (Instr.loadAt i.id (.pointer (some ⟨b, o, none⟩))).run P w = .ok (.agg l.toArray) w := by
  have hr := run_loadCells_list (P := P) w ⟨b, o, none⟩ l (fun j v hj => by rw [addr_add]; exact hc j v hj)
  rw [hl] at hr
  simp [Instr.loadAt, Instr.sureAddr, loadVar, is_agg h hn, run_size h, hr]


theorem run_fieldAddr {i : TI} (h : TIOk P i) {fs : List Nat} (hn : i.ty = .struct fs) {f n : Nat} (hf : nth fs f = some n) (w : World) (b o : Nat) :
    (Instr.fieldAt i.id (.pointer (some ⟨b, o, none⟩)) f).run P w = .ok (.pointer (some ⟨b, o + n, none⟩)) w := by
  obtain ⟨F, g, h1, h2, h3, h4, _⟩ := field_ok h hn hf
  simp [Instr.fieldAt, underlying, h1, h2, Instr.sureAddr, fieldPlace, h4, h3, addr_add]
theorem run_field {i : TI} (h : TIOk P i) {fs : List Nat} (hn : i.ty = .struct fs) {f n : Nat} (hf : nth fs f = some n) (w : World) {cs : Array Value} {v : Value} (hv : nth cs.toList n = some v) :
    (Instr.field i.id (.agg cs) f).run P w = .ok v w := by
  obtain ⟨F, g, h1, h2, h3, _, h5⟩ := field_ok h hn hf
  rw [nth_eq, Array.getElem?_toList] at hv
  simp [Instr.field, underlying, h1, h2, asAgg, part, h5, h3, hv]
theorem run_indexAddr {i ei : TI} (h : TIOk P i) {e : TypeId} (hn : i.ty = .slice e) (he : TIOk P ei) (hid : ei.id = e) (w : World) (b o len cap j : Nat) (k : IntKind) (hj : j < len) :
    (Instr.indexAt i.id (.slice (some ⟨b, o, none⟩) len cap) (.int k (j : Int))).run P w = .ok (.pointer (some ⟨b, o + j * ei.size, none⟩)) w := by
  have h2 := h.2
  rw [hn] at h2
  have h3 : P.underlying i.id = some (.slice e) := h2
  have h4 : (0 : Int) ≤ (j : Int) ∧ (j : Int) < (len : Int) := by omega
  subst hid
  simp [Instr.indexAt, asIntOf, underlying, h3, h4, hj, run_size he, addr_add]
theorem run_index {i : TI} (h : TIOk P i) (hn : i.ty = .str) (w : World) (s : ByteArray) (j : Nat) (k : IntKind) (hj : j < s.size) :
    (Instr.index i.id (.string s) (.int k (j : Int))).run P w = .ok (.int .u8 ((s[j]'hj).toNat : Int)) w := by
  have h2 := h.2
  rw [hn] at h2
  have h3 : P.underlying i.id = some .string := h2
  have h4 : s[j]? = some (s[j]'hj) := by simp [hj]
  simp [Instr.index, asIntOf, underlying, h3, h4]
theorem run_conv {si di : TI} (hs : TIOk P si) (hd : TIOk P di) {k0 k : IntKind} (h1 : kindOf si.ty = some k0) (h2 : kindOf di.ty = some k) (w : World) (k1 : IntKind) (n : Int) (hk : InK k n) :
    (convert si.id di.id (.int k1 n)).run P w = .ok (.int k n) w := by
  have e1 : P.underlying si.id = some (.int k0) := by
    have := hs.2; unfold kindOf at h1; split at h1
    · rename_i e; cases h1; rw [e] at this; exact this
    · cases h1
  have e2 : P.underlying di.id = some (.int k) := by
    have := hd.2; unfold kindOf at h2; split at h2
    · rename_i e; cases h2; rw [e] at this; exact this
    · cases h2
  have e3 : k.wrap n = n := by
    cases k <;> first | exact hk.elim | skip
    · exact IntWalk.i64_in _ hk
    · exact IntWalk.u8_in _ hk
    · exact IntWalk.u64_in _ hk
  simp [convert, underlying, e1, e2, Conv.intToInt, e3]
theorem sliceV_ok {i ei : TI} (h : TIOk P i) {e : TypeId} (hn : i.ty = .slice e) (he : TIOk P ei) (hid : ei.id = e) {a : Option Addr} {len cap : Nat} {lo hi : Option Value} {K : Value → Prop}
    (hv : sliceV ei.size a len cap lo hi K) : ∃ v, K v ∧ ∀ w, (Instr.sliceAt i.id (.slice a len cap) lo hi none).run P w = .ok v w := by
  have h2 := h.2
  rw [hn] at h2
  have h3 : P.underlying i.id = some (.slice e) := h2
  subst hid
  unfold sliceV at hv
  split at hv
  · refine ⟨_, hv, fun w => ?_⟩
    have hz : (a.map (·.add 0)) = a := by cases a <;> simp [Addr.add]
    simp [Instr.sliceAt, Instr.slice, Instr.sliceBounds, underlying, h3, run_size he, hz]
  · rename_i k h
    obtain ⟨H, rfl, hc, hK⟩ := hv
    have hz : (a.map (·.add 0)) = a := by cases a <;> simp [Addr.add]
    have hb : (0 : Int) ≤ (H : Int) ∧ (H : Int) ≤ (cap : Int) := by omega
    refine ⟨_, hK, fun w => ?_⟩
    simp [Instr.sliceAt, Instr.slice, Instr.sliceBounds, Instr.sliceBound, asIntOf, underlying, h3, run_size he, hz, hb, hc]
  · rename_i k l
    obtain ⟨L, rfl, hc, hd, hK⟩ := hv
    have hb : (0 : Int) ≤ (L : Int) ∧ (L : Int) ≤ (len : Int) := by omega
    refine ⟨_, hK, fun w => ?_⟩
    simp [Instr.sliceAt, Instr.slice, Instr.sliceBounds, Instr.sliceBound, asIntOf, underlying, h3, run_size he, hb, hc]
  · rename_i k l k' h
    obtain ⟨L, H, rfl, rfl, hc, hd, hK⟩ := hv
    have hb : (0 : Int) ≤ (L : Int) ∧ (L : Int) ≤ (H : Int) := by omega
    have hb' : (0 : Int) ≤ (H : Int) ∧ (H : Int) ≤ (cap : Int) := by omega
    refine ⟨_, hK, fun w => ?_⟩
    simp [Instr.sliceAt, Instr.slice, Instr.sliceBounds, Instr.sliceBound, asIntOf, underlying, h3, run_size he, hb, hb', hc, hd]
  · exact hv.elim
theorem cutV_ok {i : TI} (h : TIOk P i) (hn : i.ty = .str) {s : ByteArray} {lo hi : Option Value} {K : Value → Prop}
    (hv : cutV s lo hi K) : ∃ v, K v ∧ ∀ w, (Instr.sliceAt i.id (.string s) lo hi none).run P w = .ok v w := by
  have h2 := h.2
  rw [hn] at h2
  have h3 : P.underlying i.id = some .string := h2
  unfold cutV at hv
  split at hv
  · refine ⟨_, hv, fun w => ?_⟩
    simp [Instr.sliceAt, Instr.slice, Instr.sliceBounds, underlying, h3]
  · rename_i k h
    obtain ⟨H, rfl, hc, hK⟩ := hv
    have hb : (0 : Int) ≤ (H : Int) ∧ (H : Int) ≤ (s.size : Int) := by omega
    refine ⟨_, hK, fun w => ?_⟩
    simp [Instr.sliceAt, Instr.slice, Instr.sliceBounds, Instr.sliceBound, asIntOf, underlying, h3, hb, hc]
  · rename_i k l
    obtain ⟨L, rfl, hc, hK⟩ := hv
    have hb : (0 : Int) ≤ (L : Int) ∧ (L : Int) ≤ (s.size : Int) := by omega
    refine ⟨_, hK, fun w => ?_⟩
    simp [Instr.sliceAt, Instr.slice, Instr.sliceBounds, Instr.sliceBound, asIntOf, underlying, h3, hb, hc]
  · rename_i k l k' h
    obtain ⟨L, H, rfl, rfl, hc, hd, hK⟩ := hv
    have hb : (0 : Int) ≤ (L : Int) ∧ (L : Int) ≤ (H : Int) := by omega
    have hb' : (0 : Int) ≤ (H : Int) ∧ (H : Int) ≤ (s.size : Int) := by omega
    refine ⟨_, hK, fun w => ?_⟩
    simp [Instr.sliceAt, Instr.slice, Instr.sliceBounds, Instr.sliceBound, asIntOf, underlying, h3, hb, hb', hc, hd]
  · exact hv.elim

theorem run_mapM {α β : Type} (f : α → Sem β) (g : α → β) (l : List α) (w : World) (h : ∀ x, x ∈ l → (f x).run P w = .ok (g x) w) : (l.mapM f).run P w = .ok (l.map g) w := by
  induction l with
  | nil => simp
  | cons x r ih => simp [List.mapM_cons, h x List.mem_cons_self, ih (fun y hy => h y (List.mem_cons_of_mem _ hy))]
theorem putAt_eq (l : List Value) (n : Nat) (v : Value) : putAt l n v = l.set n v := by
  induction l generalizing n with
  | nil => rfl
  | cons x r ih => cases n with
    | zero => rfl
    | succ n => simp [putAt, ih]
theorem fillL_ok {pl : Nat → Option (Nat × Nat)} {fs : List Nat} (hp : ∀ i n, nth fs i = some n → pl i = some (n, 1)) {cs : List Value} {is : List Nat} {vs : List Value} {K : List Value → Prop}
    (h : fillL cs fs is vs K) (hl : is.length = vs.length) : ∃ l, K l ∧ Instr.fill pl cs.toArray (is.zip vs) = some l.toArray := by
  induction is generalizing cs vs with
  | nil => exact ⟨cs, by simpa [fillL] using h, by cases vs <;> simp [Instr.fill]⟩
  | cons i is ih => cases vs with
    | nil => cases hl
    | cons v vs =>
      simp only [fillL] at h
      split at h
      · rename_i n hn
        have hpn := hp i n hn
        split at h
        · exact h.elim
        · rename_i hv
          split at h
          · rename_i hlt
            obtain ⟨l, h1, h2⟩ := ih h (by simpa using hl)
            refine ⟨l, h1, ?_⟩
            have hc : v.cells = #[v] := by
              cases v <;> first | rfl | exact (hv _ rfl).elim
            have hb : n < cs.length := by
              rw [← len1_eq]; simpa [Nat.blt_eq] using hlt
            rw [putAt_eq] at h2
            simp only [List.zip_cons_cons, Instr.fill, hpn, hc]
            rw [if_neg (by simp; omega)]
            simpa using h2
          · exact h.elim
      · exact h.elim
theorem run_build {i : TI} (h : TIOk P i) {fs : List Nat} (hn : i.ty = .struct fs) {z : Array Value} (hz : i.zero = .agg z) {is : List Nat} {vs : List Value} {K : List Value → Prop}
    (hf : fillL z.toList fs is vs K) (hl : is.length = vs.length) : ∃ l, K l ∧ ∀ w, (Instr.build i.id (is.zip vs).toArray).run P w = .ok (.agg l.toArray) w := by
  obtain ⟨x, h1, _, _, h2⟩ := info_ok h
  have h3 := h.2
  rw [hn] at h3
  obtain ⟨F, h3, hsz, h4⟩ := h3
  have hpl : ∀ i n, nth fs i = some n → ((F.toList.map fun f => (f.offset, 1)).toArray[i]? : Option (Nat × Nat)) = some (n, 1) := by
    intro i n hi
    obtain ⟨f, h5, h6, _⟩ := h4 i n hi
    simp [h5, h6]
  obtain ⟨l, hK, hl2⟩ := fillL_ok hpl hf hl
  refine ⟨l, hK, fun w => ?_⟩
  have hm : ((F.mapM fun f => do pure (f.offset, ← sizeOf f.type) : Sem (Array (Nat × Nat)))).run P w = .ok (F.toList.map fun f => (f.offset, 1)).toArray w := by
    rw [Array.mapM_eq_mapM_toList]
    have := run_mapM (P := P) (fun f : Field => (do pure (f.offset, ← sizeOf f.type) : Sem (Nat × Nat))) (fun f => (f.offset, 1)) F.toList w (fun f hfm => by
      obtain ⟨k, hk, rfl⟩ := List.getElem_of_mem hfm
      have hk2 : k < fs.length := by simp at hk; omega
      obtain ⟨f, h5, h6, j, h7, h8, _⟩ := h4 k fs[k] (by rw [nth_eq]; simp [hk2])
      have h9 : F.toList[k] = f := by
        have := Array.getElem?_eq_some_iff.1 h5
        obtain ⟨_, e⟩ := this
        simpa using e
      simp [h9, sizeOf, typeInfo, h7, h8])
    rw [Sem.run_map, this]
    rfl
  simp only [Instr.build, zeroValue, typeInfo, underlying, Sem.run_bind, run_program, Result.andThen_ok, h1, h2, h3, hz, Sem.run_pure, hm, Value.cells]
  rw [show z = z.toList.toArray from rfl] at *
  simp only [hl2]
  simp

theorem run_equalIn_bool {t : TypeId} (ht : P.underlying t = some .bool) (d : Nat) (a b : Bool) (w : World) : (Op.equalIn (d + 1) t (.bool a) (.bool b)).run P w = .ok (a == b) w := by
  simp [Op.equalIn, underlying, ht]
theorem run_equal_bool {t : TypeId} (ht : P.underlying t = some .bool) (a b : Bool) (w : World) : (Op.equal t (.bool a) (.bool b)).run P w = .ok (a == b) w := by
  simp only [Op.equal, Op.maxDepth]
  exact run_equalIn_bool ht 9999 a b w

theorem opV_ok (hT : TOk P T) {o : Oper} {K : SV → Prop} (h : opV T st o.op K) : ∃ s, K s ∧ ∀ n, Yields P n st o s := by
  obtain ⟨dst, op, type, pos, after, guard⟩ := o
  obtain ⟨E, H, A⟩ := st
  simp only at h
  unfold Yields
  cases op <;> simp only [opV] at h <;> first | exact h.elim | skip
  case move x =>
    obtain ⟨s, h1, h2⟩ := onS_ok h
    exact ⟨s, h2, fun n a w hS => ⟨(ev_ok hS h1).1, by simp [execOp, (ev_ok hS h1).2]⟩⟩
  case assign x =>
    obtain ⟨s, h1, h2⟩ := onS_ok h
    exact ⟨s, h2, fun n a w hS => ⟨(ev_ok hS h1).1, by simp [execOp, (ev_ok hS h1).2]⟩⟩
  case pick c x y =>
    split at h
    · rename_i b hc
      rcases h.out with ⟨rfl, h⟩ | ⟨rfl, h⟩
      · obtain ⟨s, h1, h2⟩ := onS_ok h
        exact ⟨s, h2, fun n a w hS => ⟨(ev_ok hS h1).1, by simp [execOp, ev_v hS hc, asBool, (ev_ok hS h1).2]⟩⟩
      · obtain ⟨s, h1, h2⟩ := onS_ok h
        exact ⟨s, h2, fun n a w hS => ⟨(ev_ok hS h1).1, by simp [execOp, ev_v hS hc, asBool, (ev_ok hS h1).2]⟩⟩
    · exact h.elim
  case load t x =>
    split at h
    · exact h.elim
    · rename_i id fs sz by_ z hi
      obtain ⟨rfl, hI⟩ := get_ok hT hi
      split at h
      · rename_i k o hx
        split at h
        · exact h.elim
        · rename_i bk cs ty ho
          obtain ⟨h1, h2⟩ := force_eq h
          refine ⟨_, h1, fun n a w hS => ⟨trivial, ?_⟩⟩
          have hc : CellsAt w bk o (List.take sz (dropN o cs)) := by
            intro j v hj
            have hO := hS.2.2.2.2
            refine own_cell (e := ⟨bk, cs, ty⟩) hO ho ?_
            rw [dropN_eq, List.getElem?_take] at hj
            split at hj
            · rw [nth_eq]; simpa using hj
            · cases hj
          have hr := run_loadAtN hI rfl (by simp; omega) hc
          simp only [execOp, ev_own hS hx ho, den, Sem.run_bind, hr]
          rfl
      · rename_i b o hx
        obtain ⟨l, h1, h2, h3⟩ := h
        refine ⟨_, h3, fun n a w hS => ⟨trivial, ?_⟩⟩
        have hr := run_loadAtN (w := w) hI rfl h1 (fun j v hj => cell_ext hS.2.2.2.1 (h2 j v hj))
        simp only [execOp, ev_v hS hx, den, Sem.run_bind, hr]
        rfl
      · exact h.elim
    · rename_i id ty sz by_ z hf hi
      obtain ⟨rfl, hI⟩ := get_ok hT hi
      split at h
      · rename_i k o hx
        split at h
        · exact h.elim
        · rename_i bk cs ty' ho
          split at h
          · rename_i v hv
            refine ⟨_, h, fun n a w hS => ⟨trivial, ?_⟩⟩
            have hr := run_loadAt1 (w := w) hI (fun fs e => hf fs e) (own_cell (e := ⟨bk, cs, ty'⟩) hS.2.2.2.2 ho hv)
            simp only [execOp, ev_own hS hx ho, den, Sem.run_bind, hr]
            rfl
          · exact h.elim
      · rename_i b o hx
        obtain ⟨v, h1, h2⟩ := h
        refine ⟨_, h2, fun n a w hS => ⟨trivial, ?_⟩⟩
        have hr := run_loadAt1 (w := w) hI (fun fs e => hf fs e) (cell_ext hS.2.2.2.1 h1)
        simp only [execOp, ev_v hS hx, den, Sem.run_bind, hr]
        rfl
      · exact h.elim
  case fieldAddr t x f =>
    split at h
    · rename_i id fs sz by_ z hi
      obtain ⟨rfl, hI⟩ := get_ok hT hi
      split at h
      · exact h.elim
      · rename_i m hm
        split at h
        · rename_i k o hx
          refine ⟨_, h, fun n a w hS => ?_⟩
          obtain ⟨h1, h2⟩ := ev_ok hS hx
          refine ⟨h1, ?_⟩
          have he : ∃ e, nth H k = some e := by
            rw [nth_eq]; exact ⟨_, List.getElem?_eq_getElem h1⟩
          obtain ⟨e, he⟩ := he
          rw [execOp]
          simp only [ev_own hS hx he, den, he, Sem.run_bind, run_fieldAddr hI rfl hm]
          rfl
        · rename_i b o hx
          refine ⟨_, h, fun n a w hS => ⟨trivial, ?_⟩⟩
          rw [execOp]
          simp only [ev_v hS hx, den, Sem.run_bind, run_fieldAddr hI rfl hm]
          rfl
        · exact h.elim
    · exact h.elim
  case field t x f =>
    split at h
    · rename_i id fs sz by_ z hi
      obtain ⟨rfl, hI⟩ := get_ok hT hi
      split at h
      · exact h.elim
      · rename_i m hm
        split at h
        · rename_i cs hx
          split at h
          · rename_i v hv
            refine ⟨_, h, fun n a w hS => ⟨trivial, ?_⟩⟩
            rw [execOp]
            simp only [ev_v hS hx, den, Sem.run_bind, run_field hI rfl hm w hv]
            rfl
          · exact h.elim
        · exact h.elim
    · exact h.elim
  case indexAddr t x ix =>
    split at h
    · rename_i id e sz by_ z hi
      obtain ⟨rfl, hI⟩ := get_ok hT hi
      split at h
      · exact h.elim
      · rename_i hei
        obtain ⟨hid, hE⟩ := get_ok hT hei
        split at h
        · rename_i b o len cap k m hx hm
          obtain ⟨j, rfl, hj, h⟩ := h
          refine ⟨_, h, fun n a w hS => ⟨trivial, ?_⟩⟩
          rw [execOp]
          have hr := run_indexAddr hI rfl hE hid w b o len cap j k hj
          simp only [Nat.mul_one] at hr
          simp only [ev_v hS hx, ev_v hS hm, den, Sem.run_bind, hr]
          rfl
        · exact h.elim
      · rename_i hei
        obtain ⟨hid, hE⟩ := get_ok hT hei
        split at h
        · rename_i b o len cap k m hx hm
          obtain ⟨j, rfl, hj, h⟩ := h
          refine ⟨_, h, fun n a w hS => ⟨trivial, ?_⟩⟩
          rw [execOp]
          simp only [ev_v hS hx, ev_v hS hm, den, Sem.run_bind, run_indexAddr hI rfl hE hid w b o len cap j k hj]
          rfl
        · exact h.elim
    · exact h.elim
  case index t x ix =>
    split at h
    · rename_i id sz by_ z hi
      obtain ⟨rfl, hI⟩ := get_ok hT hi
      split at h
      · rename_i s k m hx hm
        obtain ⟨j, rfl, hj, hj', h⟩ := h
        refine ⟨_, h, fun n a w hS => ⟨trivial, ?_⟩⟩
        rw [execOp]
        simp only [ev_v hS hx, ev_v hS hm, den, Sem.run_bind, run_index hI rfl w s j k hj]
        rfl
      · exact h.elim
    · exact h.elim
  case binOp op t x y t' =>
    split at h
    · rename_i u v hx hy
      split at h
      · rename_i id sz by_ z hi
        obtain ⟨rfl, hI⟩ := get_ok hT hi
        cases op <;> simp only at h <;> first | exact h.elim | skip
        · refine ⟨_, h, fun n a w hS => ⟨trivial, ?_⟩⟩
          have hr := run_equal_bool (P := P) (t := id) hI.2 u v w
          simp [execOp, ev_v hS hx, ev_v hS hy, eqGuard, binOp, hr, den]
        · refine ⟨_, h, fun n a w hS => ⟨trivial, ?_⟩⟩
          have hr := run_equal_bool (P := P) (t := id) hI.2 u v w
          simp [execOp, ev_v hS hx, ev_v hS hy, eqGuard, binOp, hr, den]
      · exact h.elim
    · rename_i u v hx hy
      obtain ⟨r, h1, h2⟩ := binV_ok (P := P) h
      refine ⟨_, h1, fun n a w hS => ⟨trivial, ?_⟩⟩
      have := h2 t x y w
      rw [execOp]
      simp only [ev_v hS hx, ev_v hS hy, den]
      rw [Sem.run_bind, this]
      rfl
    · exact h.elim
  case unOp op t x =>
    split at h
    · rename_i b hx
      exact ⟨_, h, fun n a w hS => ⟨trivial, by simp [execOp, ev_v hS hx, Op.unary, den]⟩⟩
    · exact h.elim
  case convert s d x =>
    split at h
    · rename_i id1 k0 sz1 by1 z1 id2 k sz2 by2 z2 hs hd
      obtain ⟨rfl, hI⟩ := get_ok hT hs
      obtain ⟨rfl, hD⟩ := get_ok hT hd
      split at h
      · rename_i k1 m hx
        refine ⟨_, h.2, fun n a w hS => ⟨trivial, ?_⟩⟩
        rw [execOp]
        simp only [ev_v hS hx, den, Sem.run_bind, run_conv hI hD rfl rfl w k1 m h.1]
        rfl
      · exact h.elim
    · exact h.elim
  case slice t x lo hi mx =>
    cases mx with
    | some m => exact h.elim
    | none =>
      simp only at h
      split at h
      · rename_i id e sz by_ z hi
        obtain ⟨rfl, hI⟩ := get_ok hT hi
        split at h
        · exact h.elim
        · rename_i hei
          obtain ⟨hid, hE⟩ := get_ok hT hei
          split at h
          · rename_i p len cap hx
            obtain ⟨l, h, h1⟩ := evO_ok h
            obtain ⟨u, h, h2⟩ := evO_ok h
            obtain ⟨v, h, h3⟩ := sliceV_ok (P := P) hI rfl hE hid h
            refine ⟨_, h, fun n a w hS => ⟨trivial, ?_⟩⟩
            rw [execOp]
            simp only [ev_v hS hx, h1 n a w hS, h2 n a w hS, den, Sem.run_bind, Option.map_none, h3]
            rfl
          · exact h.elim
      · rename_i id sz by_ z hi
        obtain ⟨rfl, hI⟩ := get_ok hT hi
        split at h
        · rename_i s hx
          obtain ⟨l, h, h1⟩ := evO_ok h
          obtain ⟨u, h, h2⟩ := evO_ok h
          obtain ⟨v, h, h3⟩ := cutV_ok (P := P) hI rfl h
          refine ⟨_, h, fun n a w hS => ⟨trivial, ?_⟩⟩
          rw [execOp]
          simp only [ev_v hS hx, h1 n a w hS, h2 n a w hS, den, Sem.run_bind, Option.map_none, h3]
          rfl
        · exact h.elim
      · exact h.elim
  case makeFunc fn fi cap =>
    obtain ⟨l, h, _, h1⟩ := evL_ok h
    obtain ⟨u, h, _, h2⟩ := evL_ok h
    refine ⟨_, h, fun n a w hS => ⟨trivial, ?_⟩⟩
    have e1 : fi.map a.eval = l.toArray := by
      apply Array.ext'
      rw [Array.toList_map, h1 n a w hS]
    have e2 : cap.map a.eval = u.toArray := by
      apply Array.ext'
      rw [Array.toList_map, h2 n a w hS]
    simp [execOp, e1, e2, Instr.makeFunc, den]
  case build t parts =>
    split at h
    · rename_i id fs sz by_ z hi
      obtain ⟨rfl, hI⟩ := get_ok hT hi
      obtain ⟨vs, h1, h5, h2⟩ := evL_ok h
      obtain ⟨l, h3, h4⟩ := run_build (P := P) hI rfl rfl h1 (by simpa using h5.symm)
      rw [forceA_eq] at h3
      refine ⟨_, h3, fun n a w hS => ⟨trivial, ?_⟩⟩
      have e : parts.map (fun x => (x.1, a.eval x.2)) = ((parts.toList.map (·.1)).zip vs).toArray := by
        apply Array.ext'
        rw [← h2 n a w hS]
        simp [List.zip_map', List.map_map, Function.comp_def]
      rw [execOp]
      simp only [e, Sem.run_bind, h4]
      rfl
    · exact h.elim
  case extract x i =>
    split at h
    · rename_i vs hx
      split at h
      · rename_i v hv
        refine ⟨_, h, fun n a w hS => ⟨trivial, ?_⟩⟩
        rw [nth_eq, Array.getElem?_toList] at hv
        simp [execOp, ev_v hS hx, Instr.extract, hv, den]
      · exact h.elim
    · exact h.elim
  case nilCheck x =>
    split at h
    · rename_i k o hx
      refine ⟨_, h, fun n a w hS => ?_⟩
      obtain ⟨h1, h2⟩ := ev_ok hS hx
      refine ⟨h1, ?_⟩
      have he : ∃ e, nth H k = some e := by
        rw [nth_eq]; exact ⟨_, List.getElem?_eq_getElem h1⟩
      obtain ⟨e, he⟩ := he
      simp [execOp, ev_own hS hx he, den, he]
    · rename_i p hx
      exact ⟨_, h, fun n a w hS => ⟨trivial, by simp [execOp, ev_v hS hx, den]⟩⟩
    · exact h.elim
  case call c =>
    obtain ⟨callee, args, argTypes⟩ := c
    simp only at h
    split at h
    · rename_i x t h1 h2
      split at h
      · rename_i id e sz by_ z hi
        obtain ⟨rfl, hI⟩ := get_ok hT hi
        have ha : args = #[x] := Array.ext' h1
        have ht : argTypes = #[id] := Array.ext' h2
        subst ha ht
        split at h
        · rename_i p m cap hx
          refine ⟨_, h, fun n a w hS => ⟨trivial, ?_⟩⟩
          have h4 : P.underlying id = some (.slice e) := hI.2
          simp [execOp, resolve, invoke, builtin, Builtin.len_, underlying, h4, ev_v hS hx, goInt, den]
        · exact h.elim
      · rename_i id sz by_ z hi
        obtain ⟨rfl, hI⟩ := get_ok hT hi
        have ha : args = #[x] := Array.ext' h1
        have ht : argTypes = #[id] := Array.ext' h2
        subst ha ht
        split at h
        · rename_i s hx
          refine ⟨_, h, fun n a w hS => ⟨trivial, ?_⟩⟩
          have h4 : P.underlying id = some .string := hI.2
          simp [execOp, resolve, invoke, builtin, Builtin.len_, underlying, h4, ev_v hS hx, goInt, den]
        · exact h.elim
      · exact h.elim
    · exact h.elim

end
end Go.Proofs.YtbnjjpgacemicaaGreatDoor.Vc
