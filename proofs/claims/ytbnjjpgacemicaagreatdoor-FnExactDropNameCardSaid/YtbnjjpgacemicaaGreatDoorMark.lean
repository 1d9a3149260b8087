/-
  Contracts: what the exact laws mark and look for again; equality of slices of integers.
  Conditions: none but bounds.
-/
import Derived.Test.YtbnjjpgacemicaaGreatDoorMem
namespace Go.Proofs.YtbnjjpgacemicaaGreatDoor
open Go.RowKit Vc
attribute [local irreducible] WpC WpL WpD CallV QCallV Made AppV Ld LdN Ix EndV I64 MutN Mut CellsAt

/-- Two worlds agree on the blocks from lo on, below hi. -/
def Agree (lo hi : Nat) (w w' : World) : Prop := ∀ j, lo ≤ j → j < hi → w'.heap[j]? = w.heap[j]?
theorem Agree.refl (lo hi : Nat) (w : World) : Agree lo hi w w := fun _ _ _ => rfl
theorem Agree.trans {lo hi : Nat} {a b c : World} (h : Agree lo hi a b) (k : Agree lo hi b c) : Agree lo hi a c := fun j h1 h2 => (k j h1 h2).trans (h j h1 h2)
theorem Agree.of_ext {lo hi : Nat} {w w' : World} (h : Ext w w') (hh : hi ≤ w.heap.size) : Agree lo hi w w' := fun j _ h2 => h.block j (Nat.lt_of_lt_of_le h2 hh)
theorem Agree.of_below {lo hi B : Nat} {w w' : World} (h : Below B w w') (hh : hi ≤ B) : Agree lo hi w w' := fun j _ h2 => h.block j (Nat.lt_of_lt_of_le h2 hh)
theorem Vc.CellsAt.agree {lo hi b o : Nat} {w w' : World} {l : List Value} (h : CellsAt w b o l) (ha : Agree lo hi w w') (h1 : lo ≤ b) (h2 : b < hi) : CellsAt w' b o l :=
  CellsAt.mk fun i v hi => (World.cell?_of_block (w := w) (ha b h1 h2)).trans (h.out i v hi)
/-- Nothing but one block, of those that were there, has turned. -/
structure Exc (g : Nat) (w w' : World) : Prop where
  os : w'.os = w.os
  tape : w'.tape = w.tape
  output : w'.output = w.output
  size : w.heap.size ≤ w'.heap.size
  block : ∀ j, j < w.heap.size → j ≠ g → w'.heap[j]? = w.heap[j]?
theorem Exc.refl (g : Nat) (w : World) : Exc g w w := ⟨rfl, rfl, rfl, Nat.le_refl _, fun _ _ _ => rfl⟩
theorem Exc.trans {g : Nat} {a b c : World} (h : Exc g a b) (k : Exc g b c) : Exc g a c :=
  ⟨k.os.trans h.os, k.tape.trans h.tape, k.output.trans h.output, Nat.le_trans h.size k.size, fun j h1 h2 => (k.block j (Nat.lt_of_lt_of_le h1 h.size) h2).trans (h.block j h1 h2)⟩
theorem Exc.of_ext {g : Nat} {w w' : World} (h : Ext w w') : Exc g w w' := ⟨h.os, h.tape, h.output, h.size, fun j h1 _ => h.block j h1⟩
theorem Exc.setL {g : Nat} {A w : World} (h : Exc g A w) (l : List Value) (o : Nat) : Exc g A (setL w g o l) := by
  obtain ⟨r1, r2, r3⟩ := setL_rest g l w o
  exact h.trans ⟨r1, r2, r3, by rw [setL_size]; exact Nat.le_refl _, fun j _ hj => setL_other _ _ hj _ _⟩
theorem Exc.below {g B : Nat} {w w' : World} (h : Exc g w w') (hB : B ≤ g) (hs : B ≤ w.heap.size) : Below B w w' := ⟨h.os, h.tape, h.output, h.size, fun j hj => h.block j (by omega) (by omega)⟩
theorem Exc.agree {g lo hi : Nat} {w w' : World} (h : Exc g w w') (hh : hi ≤ w.heap.size) (hg : g < lo ∨ hi ≤ g) : Agree lo hi w w' := fun j h1 h2 => h.block j (by omega) (by omega)

/-- The block of a slice that has elements. -/
def InB (lo hi : Nat) (v : Value) : Prop := ∀ p n c, v = .slice (some p) n c → 0 < n → lo ≤ p.block ∧ p.block < hi
theorem InB.mono {lo hi lo' hi' : Nat} {v : Value} (h : InB lo hi v) (h1 : lo' ≤ lo) (h2 : hi ≤ hi') : InB lo' hi' v := fun p n c e h0 => by
  have := h p n c e h0; omega
theorem Vc.Row1.agree {lo hi : Nat} {w w' : World} {v : Value} {xs : List Value} (h : Row1 w v xs) (hi' : InB lo hi v) (ha : Agree lo hi w w') : Row1 w' v xs := by
  obtain ⟨ad, cap, rfl, h2, h3, h4⟩ := h
  refine ⟨ad, cap, rfl, h2, h3, fun h0 => ?_⟩
  obtain ⟨b, o, rfl, h6⟩ := h4 h0
  have := hi' _ _ _ rfl h0
  exact ⟨b, o, rfl, h6.agree ha this.1 this.2⟩
theorem Vc.Row1.inB {w : World} {v : Value} {xs : List Value} (h : Row1 w v xs) : InB 0 w.heap.size v := by
  obtain ⟨ad, cap, rfl, h2, h3, h4⟩ := h
  intro p n c e h0
  cases e
  obtain ⟨b, o, e, h6⟩ := h4 h0
  cases e
  exact ⟨Nat.zero_le _, h6.lt h0⟩
theorem Vc.Buf.inB {B : Nat} {w : World} {ad : Option Addr} {n cap sz : Nat} {xs : List Value} (h : Buf B w ad n cap sz xs) : InB B w.heap.size (.slice ad n cap) := by
  intro p n' c e _
  cases e
  obtain ⟨g, rfl, h1, h2, _⟩ := h.at_ p rfl
  exact ⟨h1, h2⟩
/-- A slice of n elements of one cell that may be written. -/
def Wr1 (w : World) (v : Value) (n : Nat) (g : Nat) : Prop := ∃ (ad : Option Addr) (cap : Nat), v = .slice ad n cap ∧ n ≤ cap ∧ cap ≤ 9223372036854775807 ∧ (0 < n → ∃ o, ad = some ⟨g, o, none⟩ ∧ MutN w g o n)
theorem Wr1.agree {lo hi g n : Nat} {w w' : World} {v : Value} (h : Wr1 w v n g) (ha : Agree lo hi w w') (hb : 0 < n → lo ≤ g ∧ g < hi) : Wr1 w' v n g := by
  obtain ⟨ad, cap, e, hl, hm, h4⟩ := h
  refine ⟨ad, cap, e, hl, hm, fun h0 => ?_⟩
  obtain ⟨o, e2, h5⟩ := h4 h0
  obtain ⟨h1, h2⟩ := hb h0
  refine ⟨o, e2, MutN.mk fun i hi => ?_⟩
  obtain ⟨⟨u, h6⟩, h7⟩ := h5.out i hi
  exact ⟨⟨u, (World.cell?_of_block (w := w) (ha g h1 h2)).trans h6⟩, (World.frozen?_of_block (w := w) (ha g h1 h2)).trans h7⟩
theorem Vc.Buf.wr1 {B : Nat} {w : World} {ad : Option Addr} {n cap : Nat} {xs : List Value} (h : Buf B w ad n cap 1 xs) : ∃ g, B ≤ g ∧ (0 < n → g < w.heap.size) ∧ Wr1 w (.slice ad n cap) n g := by
  cases ad with
  | none => exact ⟨B, Nat.le_refl _, fun h0 => by have := h.nil rfl; have := h.le; omega, none, cap, rfl, h.le, h.max, fun h0 => by have := h.nil rfl; have := h.le; omega⟩
  | some p =>
    obtain ⟨g, rfl, h1, h2, h3, _⟩ := h.at_ p rfl
    exact ⟨g, h1, fun _ => h2, _, cap, rfl, h.le, h.max, fun _ => ⟨0, rfl, by have := h3.sub (k := 0) (m := n) (by have := h.le; omega); simpa using this⟩⟩

/-- A slice of n elements of several cells that may be written. -/
def WrN (w : World) (v : Value) (n sz : Nat) (g : Nat) : Prop := ∃ (ad : Option Addr) (cap : Nat), v = .slice ad n cap ∧ n ≤ cap ∧ cap ≤ 9223372036854775807 ∧ (0 < n → ∃ o, ad = some ⟨g, o, none⟩ ∧ MutN w g o (n * sz))
theorem Vc.MutN.agree {lo hi g o n : Nat} {w w' : World} (h : MutN w g o n) (ha : Agree lo hi w w') (h1 : lo ≤ g) (h2 : g < hi) : MutN w' g o n := MutN.mk fun i hi => by
  obtain ⟨⟨u, h6⟩, h7⟩ := h.out i hi
  exact ⟨⟨u, (World.cell?_of_block (w := w) (ha g h1 h2)).trans h6⟩, (World.frozen?_of_block (w := w) (ha g h1 h2)).trans h7⟩
theorem WrN.agree {lo hi g n sz : Nat} {w w' : World} {v : Value} (h : WrN w v n sz g) (ha : Agree lo hi w w') (h1 : lo ≤ g) (h2 : g < hi) : WrN w' v n sz g := by
  obtain ⟨ad, cap, e, hl, hm, h4⟩ := h
  exact ⟨ad, cap, e, hl, hm, fun h0 => let ⟨o, e2, h5⟩ := h4 h0; ⟨o, e2, h5.agree ha h1 h2⟩⟩
/-- n integers from k on. -/
def upI (k : Int) (n : Nat) : List Value := (List.range n).map fun (i : Nat) => Value.int .i64 (k + (i : Int))
theorem upI_get {k : Int} {n i : Nat} (h : i < n) : (upI k n)[i]? = some (.int .i64 (k + (i : Int))) := by simp [upI, h]
@[reducible] def ints (l : List Int) : List Value := l.map (Value.int .i64)

theorem markIntS_vc (v : Value) (n g : Nat) (k : Int) (w : World) (hw : Wr1 w v n g) (h0 : 0 ≤ k) (h1 : k ≤ 17592186044416) (hn : n ≤ 17592186044416) :
    Calls Tryz.prog 42 #[v, .int .i64 k] w fun e w' => e = .returned (.int .i64 (k + n)) ∧ Exc g w w' ∧ Row1 w' v (upI k n) ∧ Wr1 w' v n g := by
  obtain ⟨ad, cap, rfl, hlc, hcm, hat⟩ := hw
  refine calls_of cx_ok Tryz.func42 Tryz.ntmps42 Tryz.results42 rfl rfl ?_
  repeat (first | refine jC ?_ | refine jN ?_ | refine jS ?_ | refine jR ?_ | refine jT ?_ | refine jB ?_ | refine jX rfl ?_ | refine jY rfl ?_ | refine jK ?_ | refine jD ?_ | refine jE ?_)
  refine WpC.loop (α := Nat × World) (fun x => ⟨[(0, .v (.slice ad n cap)), (1, .v (.int .i64 (k + x.1))), (5, .v (.int .i64 (x.1 : Int)))], [], x.2⟩)
    (fun x => x.1 ≤ n ∧ Exc g w x.2 ∧ ∀ o, ad = some ⟨g, o, none⟩ → 0 < n → MutN x.2 g o n ∧ CellsAt x.2 g o (upI k x.1)) (fun x => n - x.1) (0, w)
    ⟨Nat.zero_le _, Exc.refl _ _, fun o e h0 => by obtain ⟨o', e', hm⟩ := hat h0; rw [e] at e'; cases e'; exact ⟨hm, CellsAt.nil⟩⟩ ⟨⟨rfl, by show some _ = some _; simp, rfl, trivial⟩, trivial, trivial, Ext.refl _⟩ ?_
  rintro ⟨i, wi⟩ ⟨hi, hx, hc⟩
  dsimp only at hi hx hc
  repeat (first | refine jC ?_ | refine jN ?_ | refine jS ?_ | refine jR ?_ | refine jT ?_ | refine jB ?_ | refine jX rfl ?_ | refine jY rfl ?_ | refine jK ?_ | refine jD ?_ | refine jE ?_)
  refine Br.intro (fun h => ?_) (fun h => ?_)
  · have hlt : i < n := by have := of_decide_eq_true h; omega
    obtain ⟨o, rfl, _⟩ := hat (by omega)
    obtain ⟨hm, hci⟩ := hc o rfl (by omega)
    repeat (first | refine jC ?_ | refine jN ?_ | refine jS ?_ | refine jR ?_ | refine jT ?_ | refine jB ?_ | refine jX rfl ?_ | refine jY rfl ?_ | refine jK ?_ | refine jD ?_ | refine jE ?_)
    refine Ix.mk i rfl hlt ?_
    repeat (first | refine jC ?_ | refine jN ?_ | refine jS ?_ | refine jR ?_ | refine jT ?_ | refine jB ?_ | refine jX rfl ?_ | refine jY rfl ?_ | refine jK ?_ | refine jD ?_ | refine jE ?_)
    have hm1 : MutN wi g (o + i) 1 := hm.sub (by omega)
    refine ⟨hm1, trivial, rfl, by simp [Value.oneCell'], ?_⟩
    repeat (first | refine jC ?_ | refine jN ?_ | refine jS ?_ | refine jR ?_ | refine jT ?_ | refine jB ?_ | refine jX rfl ?_ | refine jY rfl ?_ | refine jK ?_ | refine jD ?_ | refine jE ?_)
    refine ⟨I64.mk (by omega), ?_⟩
    repeat (first | refine jC ?_ | refine jN ?_ | refine jS ?_ | refine jR ?_ | refine jT ?_ | refine jB ?_ | refine jX rfl ?_ | refine jY rfl ?_ | refine jK ?_ | refine jD ?_ | refine jE ?_)
    refine ⟨I64.mk (by omega), ?_⟩
    repeat (first | refine jC ?_ | refine jN ?_ | refine jS ?_ | refine jR ?_ | refine jT ?_ | refine jB ?_ | refine jX rfl ?_ | refine jY rfl ?_ | refine jK ?_ | refine jD ?_ | refine jE ?_)
    refine ⟨(i + 1, setL wi g (o + i) [.int .i64 (k + i)]), ⟨hlt, hx.setL _ _, fun o' e _ => ?_⟩, by show n - (i + 1) < n - i; omega, ⟨rfl, by show some _ = some _; rw [show k + (i : Int) + 1 = k + ((i + 1 : Nat) : Int) by omega], rfl, trivial⟩, trivial, trivial, Ext.refl _⟩
    cases e
    refine ⟨MutN.setL _ _ _ hm, ?_⟩
    rw [show upI k (i + 1) = upI k i ++ [.int .i64 (k + i)] by simp [upI, List.range_succ]]
    refine CellsAt.append (hci.setL_out (.inr (.inl (by simp [upI])))) ?_
    rw [show (upI k i).length = i by simp [upI]]
    exact CellsAt.setL_in hm1
  · have hie : i = n := by have := of_decide_eq_false h; omega
    subst hie
    repeat (first | refine jC ?_ | refine jN ?_ | refine jS ?_ | refine jR ?_ | refine jT ?_ | refine jB ?_ | refine jX rfl ?_ | refine jY rfl ?_ | refine jK ?_ | refine jD ?_ | refine jE ?_)
    refine EndV.mk fun w' hw' => ⟨rfl, hx.trans (Exc.of_ext hw'), Row1.ext ⟨ad, cap, by simp [upI], by simp [upI, hlc], hcm, fun h0 => ?_⟩ hw', ad, cap, rfl, hlc, hcm, fun h0 => ?_⟩
    · obtain ⟨o, e, _⟩ := hat (by simpa [upI] using h0)
      exact ⟨g, o, e, (hc o e (by simpa [upI] using h0)).2⟩
    · obtain ⟨o, e, _⟩ := hat h0
      exact ⟨o, e, (hc o e h0).1.ext hw'⟩
theorem heldIntS_vc (v : Value) (n : Nat) (k : Int) (w : World) (hr : Row1 w v (upI k n)) (h0 : 0 ≤ k) (h1 : k ≤ 17592186044416) (hn : n ≤ 17592186044416) :
    Gives Tryz.prog 44 #[v, .int .i64 k] w (.int .i64 (k + n)) := by
  obtain ⟨ad, cap, rfl, hlc, hcm, hat⟩ := hr
  have hlen : (upI k n).length = n := by simp [upI]
  rw [hlen] at hlc hat ⊢
  refine calls_of cx_ok Tryz.func44 Tryz.ntmps44 Tryz.results44 rfl rfl ?_
  repeat (first | refine jC ?_ | refine jN ?_ | refine jS ?_ | refine jR ?_ | refine jT ?_ | refine jB ?_ | refine jX rfl ?_ | refine jY rfl ?_ | refine jK ?_ | refine jD ?_ | refine jE ?_)
  refine WpC.loop (α := Nat) (fun x => ⟨[(0, .v (.slice ad n cap)), (1, .v (.int .i64 (k + x))), (5, .v (.int .i64 (x : Int)))], [], w⟩)
    (fun x => x ≤ n) (fun x => n - x) 0 (Nat.zero_le _) ⟨⟨rfl, by show some _ = some _; simp, rfl, trivial⟩, trivial, trivial, Ext.refl _⟩ ?_
  intro i hi
  repeat (first | refine jC ?_ | refine jN ?_ | refine jS ?_ | refine jR ?_ | refine jT ?_ | refine jB ?_ | refine jX rfl ?_ | refine jY rfl ?_ | refine jK ?_ | refine jD ?_ | refine jE ?_)
  refine Br.intro (fun h => ?_) (fun h => ?_)
  · have hlt : i < n := by have := of_decide_eq_true h; omega
    obtain ⟨b, o, rfl, hc⟩ := hat (by omega)
    repeat (first | refine jC ?_ | refine jN ?_ | refine jS ?_ | refine jR ?_ | refine jT ?_ | refine jB ?_ | refine jX rfl ?_ | refine jY rfl ?_ | refine jK ?_ | refine jD ?_ | refine jE ?_)
    refine Ix.mk i rfl hlt ?_
    repeat (first | refine jC ?_ | refine jN ?_ | refine jS ?_ | refine jR ?_ | refine jT ?_ | refine jB ?_ | refine jX rfl ?_ | refine jY rfl ?_ | refine jK ?_ | refine jD ?_ | refine jE ?_)
    refine Ld.mk (hc.out i _ (upI_get hlt)) ?_
    repeat (first | refine jC ?_ | refine jN ?_ | refine jS ?_ | refine jR ?_ | refine jT ?_ | refine jB ?_ | refine jX rfl ?_ | refine jY rfl ?_ | refine jK ?_ | refine jD ?_ | refine jE ?_)
    refine Br.no (by simp) ?_
    repeat (first | refine jC ?_ | refine jN ?_ | refine jS ?_ | refine jR ?_ | refine jT ?_ | refine jB ?_ | refine jX rfl ?_ | refine jY rfl ?_ | refine jK ?_ | refine jD ?_ | refine jE ?_)
    refine ⟨I64.mk (by omega), ?_⟩
    repeat (first | refine jC ?_ | refine jN ?_ | refine jS ?_ | refine jR ?_ | refine jT ?_ | refine jB ?_ | refine jX rfl ?_ | refine jY rfl ?_ | refine jK ?_ | refine jD ?_ | refine jE ?_)
    refine ⟨I64.mk (by omega), ?_⟩
    repeat (first | refine jC ?_ | refine jN ?_ | refine jS ?_ | refine jR ?_ | refine jT ?_ | refine jB ?_ | refine jX rfl ?_ | refine jY rfl ?_ | refine jK ?_ | refine jD ?_ | refine jE ?_)
    exact ⟨i + 1, hlt, by show n - (i + 1) < n - i; omega, ⟨rfl, by show some _ = some _; rw [show k + (i : Int) + 1 = k + ((i + 1 : Nat) : Int) by omega], rfl, trivial⟩, trivial, trivial, Ext.refl _⟩
  · have hie : i = n := by have := of_decide_eq_false h; omega
    subst hie
    repeat (first | refine jC ?_ | refine jN ?_ | refine jS ?_ | refine jR ?_ | refine jT ?_ | refine jB ?_ | refine jX rfl ?_ | refine jY rfl ?_ | refine jK ?_ | refine jD ?_ | refine jE ?_)
    exact EndV.val rfl (Ext.refl _)
theorem eqIntS_vc (xs ys : List Int) (v v' : Value) (w : World) (hU : Row1 w v (ints xs)) (hV : Row1 w v' (ints ys)) (h : xs = ys) :
    Gives Tryz.prog 84 #[v, v'] w (.bool true) := by
  subst h
  obtain ⟨ad, cap, rfl, hlc, hcm, hat⟩ := hU
  obtain ⟨ad', cap', rfl, hlc', hcm', hat'⟩ := hV
  have hlen : (ints xs).length = xs.length := by simp
  rw [hlen] at hlc hat hlc' hat' ⊢
  refine calls_of cx_ok Tryz.func84 Tryz.ntmps84 Tryz.results84 rfl rfl ?_
  repeat (first | refine jC ?_ | refine jN ?_ | refine jS ?_ | refine jR ?_ | refine jT ?_ | refine jB ?_ | refine jX rfl ?_ | refine jY rfl ?_ | refine jK ?_ | refine jD ?_ | refine jE ?_)
  refine Br.no (by simp) ?_
  repeat (first | refine jC ?_ | refine jN ?_ | refine jS ?_ | refine jR ?_ | refine jT ?_ | refine jB ?_ | refine jX rfl ?_ | refine jY rfl ?_ | refine jK ?_ | refine jD ?_ | refine jE ?_)
  refine WpC.loop (α := Nat) (fun x => ⟨[(0, .v (.slice ad xs.length cap)), (1, .v (.slice ad' xs.length cap')), (5, .v (.int .i64 (x : Int)))], [], w⟩)
    (fun x => x ≤ xs.length) (fun x => xs.length - x) 0 (Nat.zero_le _) ⟨⟨rfl, rfl, rfl, trivial⟩, trivial, trivial, Ext.refl _⟩ ?_
  intro k hk
  repeat (first | refine jC ?_ | refine jN ?_ | refine jS ?_ | refine jR ?_ | refine jT ?_ | refine jB ?_ | refine jX rfl ?_ | refine jY rfl ?_ | refine jK ?_ | refine jD ?_ | refine jE ?_)
  refine Br.intro (fun h => ?_) (fun h => ?_)
  · have hlt : k < xs.length := by have := of_decide_eq_true h; omega
    obtain ⟨b, o, rfl, hc⟩ := hat (by omega)
    obtain ⟨b', o', rfl, hc'⟩ := hat' (by omega)
    have hu : (ints xs)[k]? = some (.int .i64 xs[k]) := by simp [hlt]
    repeat (first | refine jC ?_ | refine jN ?_ | refine jS ?_ | refine jR ?_ | refine jT ?_ | refine jB ?_ | refine jX rfl ?_ | refine jY rfl ?_ | refine jK ?_ | refine jD ?_ | refine jE ?_)
    refine WpC.draw (by kernel_rfl) ?_
    repeat (first | refine jC ?_ | refine jN ?_ | refine jS ?_ | refine jR ?_ | refine jT ?_ | refine jB ?_ | refine jX rfl ?_ | refine jY rfl ?_ | refine jK ?_ | refine jD ?_ | refine jE ?_)
    refine Ix.mk k rfl hlt ?_
    repeat (first | refine jC ?_ | refine jN ?_ | refine jS ?_ | refine jR ?_ | refine jT ?_ | refine jB ?_ | refine jX rfl ?_ | refine jY rfl ?_ | refine jK ?_ | refine jD ?_ | refine jE ?_)
    refine Ld.mk (hc.out k _ hu) ?_
    repeat (first | refine jC ?_ | refine jN ?_ | refine jS ?_ | refine jR ?_ | refine jT ?_ | refine jB ?_ | refine jX rfl ?_ | refine jY rfl ?_ | refine jK ?_ | refine jD ?_ | refine jE ?_)
    refine Ix.mk k rfl hlt ?_
    repeat (first | refine jC ?_ | refine jN ?_ | refine jS ?_ | refine jR ?_ | refine jT ?_ | refine jB ?_ | refine jX rfl ?_ | refine jY rfl ?_ | refine jK ?_ | refine jD ?_ | refine jE ?_)
    refine Ld.mk (hc'.out k _ hu) ?_
    repeat (first | refine jC ?_ | refine jN ?_ | refine jS ?_ | refine jR ?_ | refine jT ?_ | refine jB ?_ | refine jX rfl ?_ | refine jY rfl ?_ | refine jK ?_ | refine jD ?_ | refine jE ?_)
    refine Br.no (by simp) ?_
    repeat (first | refine jC ?_ | refine jN ?_ | refine jS ?_ | refine jR ?_ | refine jT ?_ | refine jB ?_ | refine jX rfl ?_ | refine jY rfl ?_ | refine jK ?_ | refine jD ?_ | refine jE ?_)
    refine ⟨I64.mk (by omega), ?_⟩
    repeat (first | refine jC ?_ | refine jN ?_ | refine jS ?_ | refine jR ?_ | refine jT ?_ | refine jB ?_ | refine jX rfl ?_ | refine jY rfl ?_ | refine jK ?_ | refine jD ?_ | refine jE ?_)
    exact ⟨k + 1, hlt, by show xs.length - (k + 1) < xs.length - k; omega, ⟨rfl, rfl, rfl, trivial⟩, trivial, trivial, Ext.refl _⟩
  · repeat (first | refine jC ?_ | refine jN ?_ | refine jS ?_ | refine jR ?_ | refine jT ?_ | refine jB ?_ | refine jX rfl ?_ | refine jY rfl ?_ | refine jK ?_ | refine jD ?_ | refine jE ?_)
    exact EndV.val rfl (Ext.refl _)
end Go.Proofs.YtbnjjpgacemicaaGreatDoor
