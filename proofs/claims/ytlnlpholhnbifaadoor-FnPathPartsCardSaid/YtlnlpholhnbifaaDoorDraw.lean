/-
  The reader that the draws take their numbers from: what a pick returns lies in 0..n-1, and a pick turns the reader's place alone.
  Conditions: the reader has been asked fewer than 100,000 times.
-/
import Derived.Test.YtlnlpholhnbifaaDoorSmall
import Derived.Test.YtlnlpholhnbifaaDoorOwn
import Derived.Deep.QuietTactic
import Derived.BigQuiet
import Derived.IntWalk
namespace Go.Proofs.YtlnlpholhnbifaaDoor
open Go.ChangeShapes Go.WideShapes Go.ChangeAt Go.RowKit
set_option maxHeartbeats 2000000

/-- A reader lies at block g and has been asked p times. -/
def Rd (w : World) (g p : Nat) : Prop := ∃ (ad : Option Addr) (len cap : Nat) (bs : List Int),
  w.heap[g]? = some (.cells #[.slice ad len cap, .int .i64 p] 49 (0, 0)) ∧ len ≤ 2000 ∧ bs.length = len ∧ (∀ j, 0 ≤ bs.getD j 0 ∧ bs.getD j 0 < 256) ∧
  (0 < len → ∃ b off, ad = some ⟨b, off, none⟩ ∧ b < g ∧ ∀ j, j < len → w.cell? ⟨b, off + j, none⟩ = some (.int .u8 (bs.getD j 0)))

theorem Rd.lt {w : World} {g p : Nat} (h : Rd w g p) : g < w.heap.size := by
  obtain ⟨_, _, _, _, h, _⟩ := h
  rcases Nat.lt_or_ge g w.heap.size with hlt | hge
  · exact hlt
  · rw [Array.getElem?_eq_none hge] at h; cases h

/-- The reader is kept where its block and all below it are as they were. -/
theorem Rd.keep {w w' : World} {g p : Nat} (h : Rd w g p) (hk : ∀ k, k ≤ g → w'.heap[k]? = w.heap[k]?) : Rd w' g p := by
  obtain ⟨ad, len, cap, bs, h1, h2, h3, h4, h5⟩ := h
  refine ⟨ad, len, cap, bs, (hk g (Nat.le_refl _)).trans h1, h2, h3, h4, fun h0 => ?_⟩
  obtain ⟨b, off, h6, h7, h8⟩ := h5 h0
  exact ⟨b, off, h6, h7, fun j hj => (World.cell?_of_block (w := w) (hk b (by omega))).trans (h8 j hj)⟩
theorem Rd.below {w w' : World} {g p : Nat} (h : Rd w g p) (hb : Below w.heap.size w w') : Rd w' g p := h.keep fun k hk => hb.block k (by have := h.lt; omega)
theorem Rd.drew {w : World} {g p : Nat} (h : Rd w g p) : Rd w.drew g p := h.keep fun _ _ => rfl
theorem Rd.drewN {w : World} {g p : Nat} (h : Rd w g p) (n : Nat) : Rd (w.drewN n) g p := h.keep fun _ _ => rfl
theorem Rd.alloc {w : World} {g p : Nat} (h : Rd w g p) (o : Obj) : Rd (w.alloc o) g p := h.keep fun k hk => Below.heap_alloc w o k (by have := h.lt; omega)
theorem Rd.grown {w w' : World} {g p g' : Nat} (h : Rd w g p) (hb : w.grownBy w' (some g')) (hg : g < g') : Rd w' g p :=
  h.keep fun k hk => hb.block k (by have := h.lt; omega) (by simp; omega)
theorem Rd.setCell {w : World} {g p : Nat} (h : Rd w g p) (a : Addr) (u : Value) (hg : g < a.block) : Rd (w.setCell a u) g p :=
  h.keep fun k hk => Below.heap_setCell w a u k (by omega)

theorem xor_bd (a b : Int) (h1 : 0 ≤ a) (h2 : a < 1073741824) (h3 : 0 ≤ b) (h4 : b < 1073741824) : 0 ≤ bits .xor .i64 a b ∧ bits .xor .i64 a b < 1073741824 := by
  obtain ⟨A, rfl⟩ := Int.eq_ofNat_of_zero_le h1
  obtain ⟨B, rfl⟩ := Int.eq_ofNat_of_zero_le h3
  have hx : A ^^^ B < 2 ^ 30 := Nat.xor_lt_two_pow (by omega) (by omega)
  have e : bits .xor .i64 (A : Int) (B : Int) = ((A ^^^ B : Nat) : Int) := by
    show IntKind.i64.wrap ((BitVec.ofInt 64 (A : Int) ^^^ BitVec.ofInt 64 (B : Int)).toNat : Int) = _
    rw [BitVec.toNat_xor, ofInt_i64 A (by omega), ofInt_i64 B (by omega), IntKind.wrap_i64]
    omega
  rw [e]; omega

/-- What a pick leaves: a number, and the reader asked once more. -/
def Picked (g p : Nat) (n : Int) (w : World) (e : Ending) (w' : World) : Prop :=
  ∃ x : Int, e = .returned (.int .i64 x) ∧ 0 ≤ x ∧ (1 ≤ n → x < n) ∧ (n < 1 → x = 0) ∧ Rd w' g (p + 1) ∧ w.grownBy w' (some g)

theorem grown_set (w : World) (g o : Nat) (u : Value) : w.grownBy (w.setCell ⟨g, o, none⟩ u) (some g) :=
  ⟨rfl, rfl, rfl, by simp [World.setCell], fun k _ hne => Below.heap_setCell w _ u k (by intro h; subst h; exact hne rfl)⟩
theorem grown_drewN {w w' : World} {row : Option Nat} (h : w.grownBy w' row) (n : Nat) : w.grownBy (w'.drewN n) row := ⟨h.os, h.tape, h.output, h.size, h.block⟩

theorem heap_set (w : World) (g o : Nat) (u : Value) {cs : Array Value} {t : TypeId} {fr : Nat × Nat} (h : w.heap[g]? = some (.cells cs t fr)) : (w.setCell ⟨g, o, none⟩ u).heap[g]? = some (.cells (cs.setIfInBounds o u) t fr) := by
  simp [World.setCell, Array.getElem?_modify, h]

theorem Rd.step {w : World} {g p : Nat} (h : Rd w g p) : Rd (w.setCell ⟨g, 1, none⟩ (.int .i64 ((p : Int) + 1))) g (p + 1) := by
  obtain ⟨ad, len, cap, bs, h1, h2, h3, h4, h5⟩ := h
  refine ⟨ad, len, cap, bs, ?_, h2, h3, h4, fun h0 => ?_⟩
  · rw [heap_set w g 1 _ h1]; rfl
  · obtain ⟨b, off, h6, h7, h8⟩ := h5 h0
    refine ⟨b, off, h6, h7, fun j hj => ?_⟩
    rw [World.cell?_of_block (w := w) (Below.heap_setCell w _ _ b (by simp; omega))]
    exact h8 j hj

theorem pick_any (g p : Nat) (n : Int) (w : World) (h : Rd w g p) (hp : p < 100000) (hn : n < 1000000) :
    Calls Tryd.prog 34 #[.pointer (some ⟨g, 0, none⟩), .int .i64 n] w (Picked g p n w) := by
  have hst := Lib.hid h.step
  have hR := h
  obtain ⟨ad, len, cap, bs, h1, h2, h3, h4, h5⟩ := hR
  have hc0 : w.cell? ⟨g, 0, none⟩ = some (.slice ad len cap) := cell_of_row w g 0 _ _ _ h1
  have hc1 : w.cell? ⟨g, 1, none⟩ = some (.int .i64 p) := cell_of_row w g 1 _ _ _ h1
  have hf1 : w.frozen? ⟨g, 1, none⟩ = false := by simp [World.frozen?, h1]
  have hfin : ∀ (x : Int) (q : Nat), 0 ≤ x → (1 ≤ n → x < n) → (n < 1 → x = 0) → Picked g p n w (.returned (.int .i64 x)) ((w.setCell ⟨g, 1, none⟩ (.int .i64 ((p : Int) + 1))).drewN q) :=
    fun x q a b c => ⟨x, rfl, a, b, c, (hst.out.keep fun k _ => rfl), grown_drewN (grown_set w g 1 _) q⟩
  have Hfin := Lib.hid hfin
  clear hfin h1 h hst
  by_cases hn1 : n < 1
  · clear h3 h4 h5
    go_enter Tryd.func34, Tryd.ntmps34
    go_wp2
    go_ret
    exact Hfin.out 0 0 (by omega) (by omega) (by omega)
  · have hn2 : 1 ≤ n := by omega
    by_cases h0 : len = 0
    · subst h0
      clear h3 h4 h5
      go_enter Tryd.func34, Tryd.ntmps34
      go_wp2
      go_ret
      exact Hfin.out 0 0 (by omega) (by omega) (by omega)
    · obtain ⟨b, off, rfl, hbg, hcell⟩ := h5 (by omega)
      have hl0 : ((len : Int) == 0) = false := by simp; omega
      have hcell' : ∀ j, j < len → (w.setCell ⟨g, 1, none⟩ (.int .i64 ((p : Int) + 1))).cell? ⟨b, off + j, none⟩ = some (.int .u8 (bs.getD j 0)) := fun j hj => by
        rw [World.cell?_of_block (w := w) (Below.heap_setCell w _ _ b (by simp; omega))]; exact hcell j hj
      clear hcell h5
      by_cases hlt : p < len
      · have hx := hcell' p hlt
        obtain ⟨q1, q2⟩ := h4 p
        clear h3 h4 hcell'
        generalize bs.getD p 0 = y at *
        go_enter Tryd.func34, Tryd.ntmps34
        go_wp2
        go_ret
        have := Int.emod_lt_of_pos y (show 0 < n by omega)
        exact Hfin.out (y % n) 0 (Int.emod_nonneg _ (by omega)) (by omega) (by omega)
      · obtain ⟨i, Hi⟩ : ∃ i, Hid (p % len = i) := ⟨_, rfl⟩
        obtain ⟨k, Hk⟩ : ∃ k, Hid ((p * 7 + 3) % len = k) := ⟨_, rfl⟩
        obtain ⟨q, Hq⟩ : ∃ q, Hid (p / len = q) := ⟨_, rfl⟩
        have hil : i < len := by rw [← Hi.out]; exact Nat.mod_lt _ (by omega)
        have hkl : k < len := by rw [← Hk.out]; exact Nat.mod_lt _ (by omega)
        have hqp : q ≤ p := by rw [← Hq.out]; exact Nat.div_le_self _ _
        have hx := hcell' i hil
        have hy := hcell' k hkl
        obtain ⟨q1, q2⟩ := h4 i
        obtain ⟨r1, r2⟩ := h4 k
        clear h3 h4 hcell'
        generalize bs.getD i 0 = y at *
        generalize bs.getD k 0 = z at *
        generalize hW : w.setCell ⟨g, 1, none⟩ (.int .i64 ((p : Int) + 1)) = w1 at *
        have hg0 : w1.cell? ⟨g, 0, none⟩ = some (.slice (some ⟨b, off, none⟩) len cap) := by rw [← hW, World.cell?_setCell_other _ _ _ _ (by simp)]; exact hc0
        have HW := Lib.hid hW
        clear hW
        have hi' : ((i : Nat) : Int) < (len : Int) := by omega
        have hk' : ((k : Nat) : Int) < (len : Int) := by omega
        have e0 : ((p : Int).tmod (len : Int)) = (i : Int) := by rw [← Hi.out]; exact (Int.ofNat_tmod p len).symm
        have e1 : IntKind.i64.wrap (i : Int) = (i : Int) := IntWalk.i64_in _ (by omega)
        have e2 : IntKind.i64.wrap ((p : Int) * 7) = (p : Int) * 7 := IntWalk.i64_in _ (by omega)
        have e3 : IntKind.i64.wrap ((p : Int) * 7 + 3) = (p : Int) * 7 + 3 := IntWalk.i64_in _ (by omega)
        have e4 : (((p : Int) * 7 + 3).tmod (len : Int)) = (k : Int) := by
          rw [← Hk.out]; have := Int.ofNat_tmod (p * 7 + 3) len; rw [this]; simp
        have e4' : IntKind.i64.wrap (k : Int) = (k : Int) := IntWalk.i64_in _ (by omega)
        have e5 : IntKind.i64.wrap y = y := IntWalk.i64_in _ (by omega)
        have e6 : IntKind.i64.wrap (y * 131) = y * 131 := IntWalk.i64_in _ (by omega)
        have e7 : IntKind.i64.wrap z = z := IntWalk.i64_in _ (by omega)
        have e8 : IntKind.i64.wrap (z * 1117) = z * 1117 := IntWalk.i64_in _ (by omega)
        have e9 : IntKind.i64.wrap (y * 131 + z * 1117) = y * 131 + z * 1117 := IntWalk.i64_in _ (by omega)
        have e10 : IntKind.i64.wrap ((p : Int) * 29) = (p : Int) * 29 := IntWalk.i64_in _ (by omega)
        have e11 : IntKind.i64.wrap (y * 131 + z * 1117 + (p : Int) * 29) = y * 131 + z * 1117 + (p : Int) * 29 := IntWalk.i64_in _ (by omega)
        have e12 : ((p : Int).tdiv (len : Int)) = (q : Int) := by rw [← Hq.out]; exact (Int.ofNat_tdiv p len).symm
        have e12' : IntKind.i64.wrap (q : Int) = (q : Int) := IntWalk.i64_in _ (by omega)
        have e13 : IntKind.i64.wrap ((q : Int) * 53) = (q : Int) * 53 := IntWalk.i64_in _ (by omega)
        have e14 : IntKind.i64.wrap (y * 131 + z * 1117 + (p : Int) * 29 + (q : Int) * 53) = y * 131 + z * 1117 + (p : Int) * 29 + (q : Int) * 53 := IntWalk.i64_in _ (by omega)
        go_enter Tryd.func34, Tryd.ntmps34
        go_wp2_with fail
        rw [HW.out]
        go_quiet (fail)
        have hX0 : 0 ≤ y * 131 + z * 1117 + (p : Int) * 29 + (q : Int) * 53 := by omega
        have hX1 : y * 131 + z * 1117 + (p : Int) * 29 + (q : Int) * 53 < 1073741824 := by omega
        clear e0 e1 e2 e3 e4 e4' e5 e6 e7 e8 e9 e10 e11 e12 e12' e13 e14
        generalize y * 131 + z * 1117 + (p : Int) * 29 + (q : Int) * 53 = X at *
        have hX := xor_bd X (X / 64) hX0 hX1 (by omega) (by omega)
        obtain ⟨x0, x1⟩ := hX
        go_wp2
        go_ret
        have := Int.emod_lt_of_pos (bits .xor .i64 X (X / 64)) (show 0 < n by omega)
        exact Hfin.out _ _ (Int.emod_nonneg _ (by omega)) (by omega) (by omega)

/-! ### What draws leave -/
/-- A number in lo..hi, and the reader asked at most c times more. -/
def Pk (c : Nat) (lo hi : Int) (g p : Nat) (w : World) (e : Ending) (w' : World) : Prop :=
  ∃ (x : Int) (p' : Nat), e = .returned (.int .i64 x) ∧ lo ≤ x ∧ x ≤ hi ∧ p' ≤ p + c ∧ Rd w' g p' ∧ w.grownBy w' (some g)
def PkB (c : Nat) (g p : Nat) (w : World) (e : Ending) (w' : World) : Prop :=
  ∃ (x : Bool) (p' : Nat), e = .returned (.bool x) ∧ p' ≤ p + c ∧ Rd w' g p' ∧ w.grownBy w' (some g)

theorem grown_trans {a b c : World} {g : Nat} (h : a.grownBy b (some g)) (k : b.grownBy c (some g)) : a.grownBy c (some g) :=
  ⟨k.os.trans h.os, k.tape.trans h.tape, k.output.trans h.output, Nat.le_trans h.size k.size, fun i hi hne => (k.block i (by have := h.size; omega) hne).trans (h.block i hi hne)⟩
theorem grown_alloc {a b : World} {g : Nat} (h : a.grownBy b (some g)) (o : Obj) : a.grownBy (b.alloc o) (some g) :=
  ⟨h.os, h.tape, h.output, by have := h.size; simp; omega, fun i hi hne => (Below.heap_alloc b o i (by have := h.size; omega)).trans (h.block i hi hne)⟩
theorem grown_self (a : World) (g : Nat) : a.grownBy a (some g) := World.grownBy.refl a _
theorem grown_below {a b : World} {g : Nat} (h : a.grownBy b (some g)) {B : Nat} (hB : B ≤ a.heap.size) (hg : B ≤ g) : Below B a b :=
  ⟨h.os, h.tape, h.output, h.size, fun k hk => h.block k (by omega) (by simp; omega)⟩
theorem below_grown {a b : World} {g : Nat} (h : Below a.heap.size a b) : a.grownBy b (some g) := ⟨h.os, h.tape, h.output, h.size, fun k hk _ => h.block k hk⟩
/-- What the walk wants to know behind a call that turned block g alone. -/
theorem gcell {W w1 : World} {g : Nat} (hb : W.grownBy w1 (some g)) : (∀ b o, b < W.heap.size → b ≠ g → w1.cell? ⟨b, o, none⟩ = W.cell? ⟨b, o, none⟩) ∧ (∀ b o, b < W.heap.size → b ≠ g → w1.frozen? ⟨b, o, none⟩ = W.frozen? ⟨b, o, none⟩) :=
  ⟨fun b o h h' => World.cell?_of_block (w := W) (hb.block b h (by simpa using h')), fun b o h h' => World.frozen?_of_block (w := W) (hb.block b h (by simpa using h'))⟩

/-- A slice of bytes that came in. -/
def CodeAt (w : World) (v : Value) : Prop := ∃ (ad : Option Addr) (len cap : Nat) (bs : List Int),
  v = .slice ad len cap ∧ len ≤ cap ∧ cap ≤ maxLen ∧ bs.length = len ∧ (∀ j, 0 ≤ bs.getD j 0 ∧ bs.getD j 0 < 256) ∧
  (0 < len → ∃ b off, ad = some ⟨b, off, none⟩ ∧ b < w.heap.size ∧ ∀ j, j < len → w.cell? ⟨b, off + j, none⟩ = some (.int .u8 (bs.getD j 0)))

theorem cellsU8 : Tryd.prog.cellsOf 5 = 1 := by kernel_rfl
/-- An argument that is a slice of bytes. -/
theorem open_bytes {H : Type} {enc : TypeId × Value → H} {W : World} {r : Reach} {b0 base : Nat} {v : Value} {d : DataW H} {p : List MemPlace}
    (hv : Value.okWide Tryd.prog W r b0 30 v) (h : DataW.Trod enc Tryd.prog W base (fun _ => true) true 30 v d p) (_hlt : ∀ x ∈ p, x.block < W.heap.size) : CodeAt W v := by
  obtain ⟨a0, len, cap, rfl⟩ := okWide_slice Tryd.underlying30 hv
  obtain ⟨fuel, hf⟩ := h
  rcases open_ints Tryd.underlying30 Tryd.underlying5 cellsU8 hf with ⟨hcs, hx⟩ | ⟨a, len', cap', zs, hcs, _, hl, hm, hz, hx, hcell, hwz⟩
  · simp [Value.cells] at hcs
    obtain ⟨rfl, rfl, rfl⟩ := hcs
    exact ⟨none, 0, 0, [], rfl, by omega, by simp [maxLen], rfl, fun j => by simp, fun h => absurd h (by omega)⟩
  · simp [Value.cells] at hcs
    obtain ⟨rfl, rfl, rfl⟩ := hcs
    simp only [if_true] at hz
    refine ⟨some a, len, cap, zs.take len, rfl, hl, hm, by rw [List.length_take]; omega, fun j => ?_, fun h0 => ?_⟩
    · have hb : ∀ n ∈ zs.take len, 0 ≤ n ∧ n < 256 := fun n hn => by
        have := bounds_u8 (hwz n (List.mem_of_mem_take hn))
        omega
      rcases Nat.lt_or_ge j (zs.take len).length with hj | hj
      · rw [List.getD_eq_getElem?_getD, List.getElem?_eq_getElem hj]
        exact hb _ (List.getElem_mem hj)
      · rw [List.getD_eq_getElem?_getD, List.getElem?_eq_none hj]; simp
    · obtain ⟨b, off, rfl, hc⟩ := ints_at hcell (by omega)
      refine ⟨b, off, rfl, World.block_lt_of_cell? W _ (hc 0 (by omega)), fun j hj => ?_⟩
      rw [hc j (by omega), List.getD_eq_getElem?_getD, List.getD_eq_getElem?_getD, List.getElem?_take, if_pos hj]
theorem CodeAt.keep {w w' : World} {v : Value} (h : CodeAt w v) (hk : ∀ k, k < w.heap.size → w'.heap[k]? = w.heap[k]?) (hs : w.heap.size ≤ w'.heap.size) : CodeAt w' v := by
  obtain ⟨ad, len, cap, bs, h1, h2, h3, h4, h5, h6⟩ := h
  refine ⟨ad, len, cap, bs, h1, h2, h3, h4, h5, fun h0 => ?_⟩
  obtain ⟨b, off, h7, h8, h9⟩ := h6 h0
  exact ⟨b, off, h7, by omega, fun j hj => (World.cell?_of_block (w := w) (hk b h8)).trans (h9 j hj)⟩
theorem CodeAt.alloc {w : World} {v : Value} (h : CodeAt w v) (o : Obj) : CodeAt (w.alloc o) v := h.keep (fun k hk => Below.heap_alloc w o k hk) (by simp)
theorem CodeAt.below {w w' : World} {v : Value} (h : CodeAt w v) (hb : Below w.heap.size w w') : CodeAt w' v := h.keep hb.block hb.size

theorem open_any (v : Value) (w : World) (h : CodeAt w v) : Calls Tryd.prog 23 #[v] w fun e w' => ∃ g, e = .returned (.pointer (some ⟨g, 0, none⟩)) ∧ w.heap.size ≤ g ∧ Rd w' g 0 ∧ Below w.heap.size w w' := by
  obtain ⟨ad, len, cap, bs, rfl, hlc, hcm, hbl, hbd, hcell⟩ := h
  unfold maxLen at hcm
  have hbs := Lib.hid hcell
  have hbd' := Lib.hid hbd
  have hbl' := Lib.hid hbl
  clear hcell hbd hbl
  by_cases hl : 2000 < len
  · go_enter Tryd.func23, Tryd.ntmps23
    go_wp2
    go_ret
    refine ⟨_, rfl, by simp, ?_, (Below.refl _ _).alloc (Nat.le_refl _) _⟩
    refine ⟨ad, 2000, cap, bs.take 2000, heap_alloc_new w _, by omega, by rw [List.length_take, hbl'.out]; omega, fun j => ?_, fun _ => ?_⟩
    · by_cases hj : j < 2000
      · rw [List.getD_eq_getElem?_getD, List.getElem?_take, if_pos hj, ← List.getD_eq_getElem?_getD]; exact hbd'.out j
      · rw [List.getD_eq_getElem?_getD, List.getElem?_take, if_neg hj]; simp
    · obtain ⟨b, off, e, hb, hc⟩ := hbs.out (by omega)
      refine ⟨b, off, e, hb, fun j hj => ?_⟩
      rw [World.cell?_alloc_lt w _ _ (by simpa using hb), hc j (by omega), List.getD_eq_getElem?_getD, List.getD_eq_getElem?_getD, List.getElem?_take, if_pos hj]
  · go_enter Tryd.func23, Tryd.ntmps23
    go_wp2
    go_ret
    refine ⟨_, rfl, by simp, ?_, (Below.refl _ _).alloc (Nat.le_refl _) _⟩
    refine ⟨ad, len, cap, bs, heap_alloc_new w _, by omega, hbl'.out, hbd'.out, fun h0 => ?_⟩
    obtain ⟨b, off, e, hb, hc⟩ := hbs.out h0
    exact ⟨b, off, e, hb, fun j hj => (World.cell?_alloc_lt w _ _ (by simpa using hb)).trans (hc j hj)⟩
theorem odd_any (g p : Nat) (n : Int) (w : World) (h : Rd w g p) (hp : p < 100000) (h0 : 0 ≤ n) (hn : n < 1000000) :
    Calls Tryd.prog 24 #[.pointer (some ⟨g, 0, none⟩), .int .i64 n] w (PkB 1 g p w) := by
  by_cases hn0 : 0 < n
  · go_enter Tryd.func24, Tryd.ntmps24
    go_wp2_with fail
    refine (pick_any g p n w h hp hn).mono ?_
    rintro e w1 ⟨x, rfl, x0, x1, x2, hR, hg⟩
    go_wp2
    go_ret
    exact ⟨_, _, rfl, by omega, hR, hg⟩
  · go_enter Tryd.func24, Tryd.ntmps24
    go_wp2
    go_ret
    exact ⟨_, p, rfl, by omega, h, grown_self w g⟩
end Go.Proofs.YtlnlpholhnbifaaDoor
