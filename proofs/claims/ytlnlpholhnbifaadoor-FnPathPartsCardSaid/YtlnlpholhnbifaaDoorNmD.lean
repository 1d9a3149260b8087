/-
  The draws of names and of paths.
  Conditions: none.
-/
import Derived.Test.YtlnlpholhnbifaaDoorRdV
import Derived.Test.YtlnlpholhnbifaaDoorPath
namespace Go.Proofs.YtlnlpholhnbifaaDoor
open Go.RowKit Vc
set_option linter.unusedVariables false
set_option maxHeartbeats 1000000
attribute [local irreducible] WpC WpL WpD WpE WpB CallV QCallV Made AppV Ld LdN Ix EndV I64 MutN Mut CellsAt

theorem parts_slash {s : ByteArray} {l : List ByteArray} (h : partsOf s = some l) : partsOf (s ++ ⟨#[47]⟩) = none := by
  obtain ⟨hg, he⟩ := partsOf_iff.1 h
  refine partsOf_none fun m hm e => ?_
  have e1 : (joinB m).data.toList = s.data.toList ++ [47] := by rw [e]; simp
  by_cases h0 : m = []
  · subst h0
    rw [hm.path, List.map_nil, Lib.join_nil] at e1
    have e2 := congrArg List.length e1
    rw [List.length_append] at e2
    have e3 : s.data = #[] := Array.eq_empty_of_size_eq_zero (by rw [← Array.length_toList]; simp at e2; simpa using e2)
    exact good_ne hg (he.trans (by cases s; simp at e3; rw [e3]))
  · rw [hm.jn h0] at e1
    obtain ⟨m', x, rfl⟩ : ∃ m' x, m = m' ++ [x] := ⟨m.dropLast, m.getLast h0, (List.dropLast_concat_getLast h0).symm⟩
    have e2 : jn (m' ++ [x]) = jn m' ++ 47 :: x.data.toList := by simp [jn]
    rw [e2] at e1
    have hx := hm.2 x (by simp)
    have h1 := (name_len hx).1
    have h47 := name_47 hx
    generalize x.data.toList = y at *
    have e4 := congrArg List.getLast? e1
    rw [List.getLast?_append, List.getLast?_append] at e4
    cases y with
    | nil => simp at h1
    | cons a r =>
      have e5 : (47 :: a :: r).getLast? = (a :: r).getLast? := List.getLast?_cons_cons
      rw [e5] at e4
      have e6 : (a :: r).getLast? = some ((a :: r).getLast (by simp)) := List.getLast?_eq_some_getLast (by simp)
      rw [e6] at e4
      simp only [Option.some_or, List.getLast?_singleton, Option.some.injEq] at e4
      exact h47 (by have := List.getLast_mem (l := a :: r) (by simp); rwa [e4] at this)

theorem Vc.Buf.exc {S : Nat → Prop} {B : Nat} {w w' : World} {ad : Option Addr} {n cap sz : Nat} {xs : List Value} (h : Buf B w ad n cap sz xs) (hX : ExcP S w w') (hS : ∀ j, B ≤ j → ¬ S j) : Buf B w' ad n cap sz xs :=
  ⟨h.le, h.max, h.len, h.nil, fun p hp => let ⟨g, h1, h2, h3, h4, h5⟩ := h.at_ p hp; ⟨g, h1, h2, Nat.lt_of_lt_of_le h3 hX.size, h4.exc h3 hX (hS g h2), h5.exc h3 hX (hS g h2)⟩⟩
theorem grown_below_trans {w A A' : World} {g : Nat} (h : w.grownBy A (some g)) (k : Below w.heap.size A A') : w.grownBy A' (some g) :=
  ⟨k.os.trans h.os, k.tape.trans h.tape, k.output.trans h.output, Nat.le_trans h.size k.size, fun i hi hne => (k.block i hi).trans (h.block i hi hne)⟩
/-- Names that are drawn, the reader asked again. -/
def PkN (c m : Nat) (g p : Nat) (w : World) (e : Ending) (w' : World) : Prop :=
  ∃ (ad : Option Addr) (cap : Nat) (ss : List ByteArray) (p' : Nat), e = .returned (.slice ad ss.length cap) ∧ ss.length ≤ m ∧ (∀ s ∈ ss, s.size ≤ 9) ∧ Buf w.heap.size w' ad ss.length cap 1 (strs ss) ∧ p' ≤ p + c ∧ Rd w' g p' ∧ w.grownBy w' (some g)
theorem CallV.pkN {P : Program} {f : FuncId} {args : Array Value} {H : List OE} {A : World} {K : Value → List OE → World → Prop} {g p c m : Nat} (hne : OwnNe H g) (h : ∀ w, Ext A w → OwnAt H w → Calls P f args w (PkN c m g p w))
    (k : ∀ (ad : Option Addr) (cap : Nat) (ss : List ByteArray) (p' : Nat) w w', Ext A w → ss.length ≤ m → (∀ s ∈ ss, s.size ≤ 9) → Buf w.heap.size w' ad ss.length cap 1 (strs ss) → p' ≤ p + c → Rd w' g p' → w.grownBy w' (some g) → K (.slice ad ss.length cap) H w') : CallV P f args H A K :=
  CallV.grow g hne (fun v w w' => ∃ (ad : Option Addr) (cap : Nat) (ss : List ByteArray) (p' : Nat), v = .slice ad ss.length cap ∧ ss.length ≤ m ∧ (∀ s ∈ ss, s.size ≤ 9) ∧ Buf w.heap.size w' ad ss.length cap 1 (strs ss) ∧ p' ≤ p + c ∧ Rd w' g p')
    (fun w h1 h2 => (h w h1 h2).mono fun e w' ⟨ad, cap, ss, p', e1, h3, h4, h5, h6, h7, h8⟩ => ⟨_, e1, ⟨ad, cap, ss, p', rfl, h3, h4, h5, h6, h7⟩, h8⟩)
    (fun v w w' h1 _ ⟨ad, cap, ss, p', e1, h3, h4, h5, h6, h7⟩ h8 => e1 ▸ k ad cap ss p' w w' h1 h3 h4 h5 h6 h7 h8)

theorem push_name {B g : Nat} {w A : World} {ad : Option Addr} {cap : Nat} {ss : List ByteArray} {s : ByteArray} {gl : Nat} {K : Value → World → Prop} {e : TypeId} (hB : Buf B A ad ss.length cap 1 (strs ss)) (hl : ss.length ≤ 10) (hs : CellsAt A gl 0 [.string s]) (hBA : B ≤ A.heap.size)
    (k : ∀ ad' cap' A', Buf B A' ad' (ss ++ [s]).length cap' 1 (strs (ss ++ [s])) → Below B A A' → K (.slice ad' (ss ++ [s]).length cap') A') :
    AppV [] A e 1 16 (.string ByteArray.empty) ad ss.length cap (some ⟨gl, 0, none⟩) 1 K := by
  refine AppV.buf hB hs rfl (by simp [Value.oneCell']) (fun p _ => trivial) (by omega) (by omega) rfl hBA (fun ad' cap' A' hB' hbl _ => ?_)
  have e1 : strs ss ++ [(.string s : Value)] = strs (ss ++ [s]) := by simp
  have e2 : ss.length + 1 = (ss ++ [s]).length := by simp
  rw [e1, e2] at hB'
  rw [e2]
  exact k ad' cap' A' hB' hbl
theorem names_vc (g p : Nat) (n : Int) (w : World) (h : Rd w g p) (hp : p < 99000) (n0 : 0 ≤ n) (n1 : n < 1000000) :
    Calls Tryd.prog 25 #[.pointer (some ⟨g, 0, none⟩), .int .i64 n] w (PkN 20 4 g p w) := by
  have hgw := h.lt
  refine calls_of cx_ok Tryd.func25 Tryd.ntmps25 Tryd.results25 rfl rfl ?_
  repeat (first | refine jC ?_ | refine jN ?_ | refine jS ?_ | refine jR ?_ | refine jT ?_ | refine jB ?_ | refine jX rfl ?_ | refine jY rfl ?_ | refine jK ?_ | refine jD ?_ | refine jE ?_)
  refine Made.mk fun g0 w0 hx0 hg01 hg02 hg03 _ => ?_
  repeat (first | refine jC ?_ | refine jN ?_ | refine jS ?_ | refine jR ?_ | refine jT ?_ | refine jB ?_ | refine jX rfl ?_ | refine jY rfl ?_ | refine jK ?_ | refine jD ?_ | refine jE ?_)
  refine CallV.pick (g := g) trivial (by omega) (fun w' hw _ => pick_any g _ 4 w' ((h.below hx0).below hw) (by omega) (by omega)) (fun m wa w1 hxa hm hR1 hg1 => ?_)
  repeat (first | refine jC ?_ | refine jN ?_ | refine jS ?_ | refine jR ?_ | refine jT ?_ | refine jB ?_ | refine jX rfl ?_ | refine jY rfl ?_ | refine jK ?_ | refine jD ?_ | refine jE ?_)
  have hB0 : Buf w.heap.size w0 (some ⟨g0, 0, none⟩) 0 0 1 (strs []) := Buf.made hg01 hg02 hg03 0 rfl (by omega)
  refine WpC.loop (α := Nat × List ByteArray × Option Addr × Nat × Nat × World) (fun x => ⟨[(0, .v (.pointer (some ⟨g, 0, none⟩))), (1, .v (.int .i64 n)), (5, .v (.slice x.2.2.1 x.2.1.length x.2.2.2.1)), (6, .v (.int .i64 (x.1 : Int)))], [], x.2.2.2.2.2⟩)
    (fun x => x.1 + x.2.1.length ≤ 3 ∧ (∀ s ∈ x.2.1, s.size ≤ 9) ∧ x.2.2.2.2.1 ≤ p + 1 + 2 * x.2.1.length ∧ Buf w.heap.size x.2.2.2.2.2 x.2.2.1 x.2.1.length x.2.2.2.1 1 (strs x.2.1) ∧ Rd x.2.2.2.2.2 g x.2.2.2.2.1 ∧ w.grownBy x.2.2.2.2.2 (some g)) (fun x => x.1)
    (m, [], some ⟨g0, 0, none⟩, 0, p + 1, w1) ⟨by simp; omega, by simp, by simp, hB0.exc (ExcP.grown (S := fun j => j = g) (ext_grown hxa hg1) rfl) (by intro j h1 h2; omega), hR1, ext_grown hx0 (ext_grown hxa hg1)⟩ ⟨⟨rfl, rfl, rfl, rfl, trivial⟩, trivial, trivial, Vc.Ext.refl _⟩ ?_
  rintro ⟨k, ss, ad, cap, pk, wk⟩ ⟨hk, hsm, hpk, hB, hR, hG⟩
  dsimp only at hk hsm hpk hB hR hG ⊢
  repeat (first | refine jC ?_ | refine jN ?_ | refine jS ?_ | refine jR ?_ | refine jT ?_ | refine jB ?_ | refine jX rfl ?_ | refine jY rfl ?_ | refine jK ?_ | refine jD ?_ | refine jE ?_)
  refine Br.intro (fun hk0 => ?_) (fun hk0 => ?_)
  · have hk1 : 1 ≤ k := by have := of_decide_eq_true hk0; omega
    repeat (first | refine jC ?_ | refine jN ?_ | refine jS ?_ | refine jR ?_ | refine jT ?_ | refine jB ?_ | refine jX rfl ?_ | refine jY rfl ?_ | refine jK ?_ | refine jD ?_ | refine jE ?_)
    refine CallV.pkS (g := g) trivial (fun w' hw _ => name_any g _ 0 w' (hR.below hw) (by omega) (by omega) (by omega)) (fun s p2 wx w2 hx2 hs hp2 hR2 hg2 => ?_)
    have hB2 := hB.exc (ExcP.grown (S := fun j => j = g) (ext_grown hx2 hg2) rfl) (by intro j h1 h2; omega)
    have hG2 := grown_trans hG (ext_grown hx2 hg2)
    repeat (first | refine jC ?_ | refine jN ?_ | refine jS ?_ | refine jR ?_ | refine jT ?_ | refine jB ?_ | refine jX rfl ?_ | refine jY rfl ?_ | refine jK ?_ | refine jD ?_ | refine jE ?_)
    refine Made.mk fun gl w3 hx3 hl1 hl2 hl3 _ => ?_
    repeat (first | refine jC ?_ | refine jN ?_ | refine jS ?_ | refine jR ?_ | refine jT ?_ | refine jB ?_ | refine jX rfl ?_ | refine jY rfl ?_ | refine jK ?_ | refine jD ?_ | refine jE ?_)
    refine push_name (w := w) (g := g) (hB2.ext hx3) (by omega) (CellsAt.of_block hl3 fun i v hi => by rw [Nat.zero_add]; exact hi) (grown_ext hG2 hx3).size (fun ad' cap' A' hB' hbl => ?_)
    repeat (first | refine jC ?_ | refine jN ?_ | refine jS ?_ | refine jR ?_ | refine jT ?_ | refine jB ?_ | refine jX rfl ?_ | refine jY rfl ?_ | refine jK ?_ | refine jD ?_ | refine jE ?_)
    refine ⟨I64.mk (by omega), ?_⟩
    repeat (first | refine jC ?_ | refine jN ?_ | refine jS ?_ | refine jR ?_ | refine jT ?_ | refine jB ?_ | refine jX rfl ?_ | refine jY rfl ?_ | refine jK ?_ | refine jD ?_ | refine jE ?_)
    obtain ⟨k', rfl⟩ : ∃ k', k = k' + 1 := ⟨k - 1, by omega⟩
    exact ⟨(k', ss ++ [s], ad', cap', p2, A'), ⟨by dsimp only; rw [List.length_append]; simp; omega, fun x hx => by
        rcases List.mem_append.1 hx with h | h
        · exact hsm x h
        · rw [List.mem_singleton.1 h]; exact hs, by dsimp only; rw [List.length_append]; simp; omega, hB', (hR2.below hx3).keep (fun k hk => hbl.block k (by omega)), grown_below_trans (grown_ext hG2 hx3) hbl⟩, by show k' < k' + 1; omega, ⟨rfl, rfl, rfl, by show some _ = some _; congr 4; omega, trivial⟩, trivial, trivial, Vc.Ext.refl _⟩
  · repeat (first | refine jC ?_ | refine jN ?_ | refine jS ?_ | refine jR ?_ | refine jT ?_ | refine jB ?_ | refine jX rfl ?_ | refine jY rfl ?_ | refine jK ?_ | refine jD ?_ | refine jE ?_)
    refine CallV.pkB (g := g) trivial (fun w' hw _ => odd_any g _ n w' (hR.below hw) (by omega) n0 n1) (fun b p3 wa3 w3 hx3 hp3 hR3 hg3 => ?_)
    have hB3 := hB.exc (ExcP.grown (S := fun j => j = g) (ext_grown hx3 hg3) rfl) (by intro j h1 h2; omega)
    have hG3 := grown_trans hG (ext_grown hx3 hg3)
    repeat (first | refine jC ?_ | refine jN ?_ | refine jS ?_ | refine jR ?_ | refine jT ?_ | refine jB ?_ | refine jX rfl ?_ | refine jY rfl ?_ | refine jK ?_ | refine jD ?_ | refine jE ?_)
    cases b
    · repeat (first | refine jC ?_ | refine jN ?_ | refine jS ?_ | refine jR ?_ | refine jT ?_ | refine jB ?_ | refine jX rfl ?_ | refine jY rfl ?_ | refine jK ?_ | refine jD ?_ | refine jE ?_)
      exact EndV.mk fun w' hw' => ⟨ad, cap, ss, p3, rfl, by omega, hsm, hB3.ext hw', by omega, hR3.below hw', grown_ext hG3 hw'⟩
    · repeat (first | refine jC ?_ | refine jN ?_ | refine jS ?_ | refine jR ?_ | refine jT ?_ | refine jB ?_ | refine jX rfl ?_ | refine jY rfl ?_ | refine jK ?_ | refine jD ?_ | refine jE ?_)
      refine CallV.pkS (g := g) trivial (fun w' hw _ => name_any g _ 1 w' (hR3.below hw) (by omega) (by omega) (by omega)) (fun s p2 wx w2 hx2 hs hp2 hR2 hg2 => ?_)
      have hB2 := hB3.exc (ExcP.grown (S := fun j => j = g) (ext_grown hx2 hg2) rfl) (by intro j h1 h2; omega)
      have hG2 := grown_trans hG3 (ext_grown hx2 hg2)
      repeat (first | refine jC ?_ | refine jN ?_ | refine jS ?_ | refine jR ?_ | refine jT ?_ | refine jB ?_ | refine jX rfl ?_ | refine jY rfl ?_ | refine jK ?_ | refine jD ?_ | refine jE ?_)
      refine Made.mk fun gl w4 hx4 hl1 hl2 hl3 _ => ?_
      repeat (first | refine jC ?_ | refine jN ?_ | refine jS ?_ | refine jR ?_ | refine jT ?_ | refine jB ?_ | refine jX rfl ?_ | refine jY rfl ?_ | refine jK ?_ | refine jD ?_ | refine jE ?_)
      refine push_name (w := w) (g := g) (hB2.ext hx4) (by omega) (CellsAt.of_block hl3 fun i v hi => by rw [Nat.zero_add]; exact hi) (grown_ext hG2 hx4).size (fun ad' cap' A' hB' hbl => ?_)
      repeat (first | refine jC ?_ | refine jN ?_ | refine jS ?_ | refine jR ?_ | refine jT ?_ | refine jB ?_ | refine jX rfl ?_ | refine jY rfl ?_ | refine jK ?_ | refine jD ?_ | refine jE ?_)
      exact EndV.mk fun w' hw' => ⟨ad', cap', ss ++ [s], p2, rfl, by rw [List.length_append]; simp; omega, fun x hx => by
        rcases List.mem_append.1 hx with h | h
        · exact hsm x h
        · rw [List.mem_singleton.1 h]; exact hs, hB'.ext hw', by omega, ((hR2.below hx4).keep (fun k hk => hbl.block k (by omega))).below hw', grown_ext (grown_below_trans (grown_ext hG2 hx4) hbl) hw'⟩
/-- Names that are drawn. -/
def DrewN (w' : World) (v : Value) (ss : List ByteArray) : Prop := (∃ ad cap, v = .slice ad ss.length cap) ∧ ss.length ≤ 7 ∧ (∀ s ∈ ss, s.size ≤ 9) ∧ Row1 w' v (strs ss)
theorem dJoinPath_vc (v : Value) (w : World) (h : CodeAt w v) : Calls Tryd.prog 14 #[v] w fun e w' => ∃ v', e = .returned v' ∧ (∃ ss, DrewN w' v' ss) ∧ Vc.Ext w w' := by
  refine calls_of cx_ok Tryd.func14 Tryd.ntmps14 Tryd.results14 rfl rfl ?_
  repeat (first | refine jC ?_ | refine jN ?_ | refine jS ?_ | refine jR ?_ | refine jT ?_ | refine jB ?_ | refine jX rfl ?_ | refine jY rfl ?_ | refine jK ?_ | refine jD ?_ | refine jE ?_)
  refine CallV.open_ (fun w' g _ hO hg => OwnNe.far hO hg) (fun w' hw _ => open_any v w' (h.below hw)) (fun g wa w1 hxa hne hg hR hx1 => ?_)
  repeat (first | refine jC ?_ | refine jN ?_ | refine jS ?_ | refine jR ?_ | refine jT ?_ | refine jB ?_ | refine jX rfl ?_ | refine jY rfl ?_ | refine jK ?_ | refine jD ?_ | refine jE ?_)
  refine CallV.pkB (g := g) hne (fun w' hw _ => odd_any g _ 14 w' (hR.below hw) (by omega) (by omega) (by omega)) (fun b p wb w2 hx2 hp hR2 hg2 => ?_)
  have hx12 := (hxa.trans hx1).trans hx2
  have hx : Vc.Ext w w2 := hx12.trans' (grown_below hg2 hx12.size (by have := hxa.size; omega))
  repeat (first | refine jC ?_ | refine jN ?_ | refine jS ?_ | refine jR ?_ | refine jT ?_ | refine jB ?_ | refine jX rfl ?_ | refine jY rfl ?_ | refine jK ?_ | refine jD ?_ | refine jE ?_)
  cases b
  · repeat (first | refine jC ?_ | refine jN ?_ | refine jS ?_ | refine jR ?_ | refine jT ?_ | refine jB ?_ | refine jX rfl ?_ | refine jY rfl ?_ | refine jK ?_ | refine jD ?_ | refine jE ?_)
    refine CallV.pkN (g := g) trivial (fun w' hw _ => names_vc g _ 6 w' (hR2.below hw) (by omega) (by omega) (by omega)) (fun ad cap ss p' wc w3 hx3 hl hsm hB hp' hR3 hg3 => ?_)
    have hx3' := hx.trans' (grown_below (ext_grown hx3 hg3) hx.size (by have := hxa.size; omega))
    repeat (first | refine jC ?_ | refine jN ?_ | refine jS ?_ | refine jR ?_ | refine jT ?_ | refine jB ?_ | refine jX rfl ?_ | refine jY rfl ?_ | refine jK ?_ | refine jD ?_ | refine jE ?_)
    exact EndV.mk fun w' hw' => ⟨_, rfl, ⟨ss, ⟨ad, cap, rfl⟩, by omega, hsm, hB.row1.ext hw'⟩, hx3'.trans hw'⟩
  · repeat (first | refine jC ?_ | refine jN ?_ | refine jS ?_ | refine jR ?_ | refine jT ?_ | refine jB ?_ | refine jX rfl ?_ | refine jY rfl ?_ | refine jK ?_ | refine jD ?_ | refine jE ?_)
    refine Made.mk fun gl w3 hx3 hl1 hl2 hl3 _ => ?_
    repeat (first | refine jC ?_ | refine jN ?_ | refine jS ?_ | refine jR ?_ | refine jT ?_ | refine jB ?_ | refine jX rfl ?_ | refine jY rfl ?_ | refine jK ?_ | refine jD ?_ | refine jE ?_)
    refine EndV.mk fun w' hw' => ⟨_, rfl, ⟨[⟨#[97]⟩, ⟨#[97]⟩, ⟨#[97]⟩, ⟨#[97]⟩, ⟨#[97]⟩, ⟨#[97]⟩, ⟨#[97]⟩], ⟨_, _, rfl⟩, by simp, fun s hs => ?_, ⟨_, _, rfl, Nat.le_refl _, by decide, fun _ => ⟨gl, 0, rfl, (CellsAt.of_block hl3 fun i v hi => by rw [Nat.zero_add]; exact hi).ext hw'⟩⟩⟩, (hx.trans hx3).trans hw'⟩
    have : s = ⟨#[97]⟩ := by simpa using hs
    subst this
    decide
theorem sevenS {w : World} {b : Nat} (h : CellsAt w b 0 [.string ⟨#[]⟩, .string ⟨#[97]⟩, .string ⟨#[47, 47]⟩, .string ⟨#[47, 97, 47]⟩, .string ⟨#[47, 65]⟩, .string ⟨#[47, 97, 47, 97, 47, 97, 47, 97, 47, 97, 47, 97, 47, 97]⟩, .string ⟨#[47, 97, 47, 47, 98]⟩]) {j : Nat} (hj : (j : Int) < 7) : ∃ s : ByteArray, s.size ≤ 101 ∧ w.cell? ⟨b, 0 + j, none⟩ = some (.string s) := by
  have h' : j = 0 ∨ j = 1 ∨ j = 2 ∨ j = 3 ∨ j = 4 ∨ j = 5 ∨ j = 6 := by omega
  rcases h' with rfl | rfl | rfl | rfl | rfl | rfl | rfl
  all_goals exact ⟨_, by decide, h.out _ _ rfl⟩
theorem joinB_size (l : List ByteArray) : (joinB l).size ≤ 101 := by
  unfold joinB
  split
  · exact Nat.zero_le _
  · rename_i h
    have := join_len (l := l) (by omega) (by omega)
    show (47 :: Lib.join (l.map (·.data.toList)) [47]).toArray.size ≤ 101
    simp only [List.size_toArray, List.length_cons]
    omega
theorem path_vc (g p : Nat) (n : Int) (w : World) (h : Rd w g p) (hp : p < 98000) (n0 : 0 ≤ n) (n1 : n < 1000000) :
    Calls Tryd.prog 31 #[.pointer (some ⟨g, 0, none⟩), .int .i64 n] w (PkS 30 101 g p w) := by
  have hgw := h.lt
  refine calls_of cx_ok Tryd.func31 Tryd.ntmps31 Tryd.results31 rfl rfl ?_
  repeat (first | refine jC ?_ | refine jN ?_ | refine jS ?_ | refine jR ?_ | refine jT ?_ | refine jB ?_ | refine jX rfl ?_ | refine jY rfl ?_ | refine jK ?_ | refine jD ?_ | refine jE ?_)
  refine CallV.pkB (g := g) trivial (fun w' hw _ => odd_any g _ n w' (h.below hw) (by omega) n0 n1) (fun b p3 wa3 w3 hx3 hp3 hR3 hg3 => ?_)
  have hG3 := ext_grown hx3 hg3
  repeat (first | refine jC ?_ | refine jN ?_ | refine jS ?_ | refine jR ?_ | refine jT ?_ | refine jB ?_ | refine jX rfl ?_ | refine jY rfl ?_ | refine jK ?_ | refine jD ?_ | refine jE ?_)
  cases b
  · repeat (first | refine jC ?_ | refine jN ?_ | refine jS ?_ | refine jR ?_ | refine jT ?_ | refine jB ?_ | refine jX rfl ?_ | refine jY rfl ?_ | refine jK ?_ | refine jD ?_ | refine jE ?_)
    refine CallV.pkN (g := g) trivial (fun w' hw _ => names_vc g _ 0 w' (hR3.below hw) (by omega) (by omega) (by omega)) (fun ad cap ss p' wc w4 hx4 hl hsm hB hp' hR4 hg4 => ?_)
    have hG4 := grown_trans hG3 (ext_grown hx4 hg4)
    repeat (first | refine jC ?_ | refine jN ?_ | refine jS ?_ | refine jR ?_ | refine jT ?_ | refine jB ?_ | refine jX rfl ?_ | refine jY rfl ?_ | refine jK ?_ | refine jD ?_ | refine jE ?_)
    refine CallV.val (fun w' hw _ => sJoinPath_vc ss _ w' (hB.row1.ext hw) (fun s hs => by have := hsm s hs; omega)) ?_
    repeat (first | refine jC ?_ | refine jN ?_ | refine jS ?_ | refine jR ?_ | refine jT ?_ | refine jB ?_ | refine jX rfl ?_ | refine jY rfl ?_ | refine jK ?_ | refine jD ?_ | refine jE ?_)
    exact EndV.mk fun w' hw' => ⟨_, p', rfl, joinB_size ss, by omega, hR4.below hw', grown_ext hG4 hw'⟩
  · repeat (first | refine jC ?_ | refine jN ?_ | refine jS ?_ | refine jR ?_ | refine jT ?_ | refine jB ?_ | refine jX rfl ?_ | refine jY rfl ?_ | refine jK ?_ | refine jD ?_ | refine jE ?_)
    refine Made.mk fun gl w4 hx4 hl1 hl2 hl3 _ => ?_
    repeat (first | refine jC ?_ | refine jN ?_ | refine jS ?_ | refine jR ?_ | refine jT ?_ | refine jB ?_ | refine jX rfl ?_ | refine jY rfl ?_ | refine jK ?_ | refine jD ?_ | refine jE ?_)
    refine CallV.pick (g := g) trivial (by omega) (fun w' hw _ => pick_any g _ 7 w' ((hR3.below hx4).below hw) (by omega) (by omega)) (fun j wa5 w5 hx5 hj hR5 hg5 => ?_)
    have hX5 := ExcP.grown (S := fun j => j = g) (ext_grown hx5 hg5) rfl
    have hgl : gl ≠ g := by have := hR3.lt; omega
    obtain ⟨s, hs, hsc⟩ := sevenS ((CellsAt.of_block hl3 fun i v hi => by rw [Nat.zero_add]; exact hi).exc hl2 hX5 hgl) hj
    repeat (first | refine jC ?_ | refine jN ?_ | refine jS ?_ | refine jR ?_ | refine jT ?_ | refine jB ?_ | refine jX rfl ?_ | refine jY rfl ?_ | refine jK ?_ | refine jD ?_ | refine jE ?_)
    refine Ix.mk j rfl (by omega) ?_
    repeat (first | refine jC ?_ | refine jN ?_ | refine jS ?_ | refine jR ?_ | refine jT ?_ | refine jB ?_ | refine jX rfl ?_ | refine jY rfl ?_ | refine jK ?_ | refine jD ?_ | refine jE ?_)
    refine Ld.mk hsc ?_
    repeat (first | refine jC ?_ | refine jN ?_ | refine jS ?_ | refine jR ?_ | refine jT ?_ | refine jB ?_ | refine jX rfl ?_ | refine jY rfl ?_ | refine jK ?_ | refine jD ?_ | refine jE ?_)
    exact EndV.mk fun w' hw' => ⟨s, p3 + 1, rfl, hs, by omega, hR5.below hw', grown_ext (grown_trans (grown_ext hG3 hx4) (ext_grown hx5 hg5)) hw'⟩
theorem dPathParts_vc (v : Value) (w : World) (h : CodeAt w v) : Calls Tryd.prog 19 #[v] w fun e w' => ∃ v', e = .returned v' ∧ (∃ s : ByteArray, v' = .string s ∧ s.size ≤ 101) ∧ Vc.Ext w w' := by
  refine calls_of cx_ok Tryd.func19 Tryd.ntmps19 Tryd.results19 rfl rfl ?_
  repeat (first | refine jC ?_ | refine jN ?_ | refine jS ?_ | refine jR ?_ | refine jT ?_ | refine jB ?_ | refine jX rfl ?_ | refine jY rfl ?_ | refine jK ?_ | refine jD ?_ | refine jE ?_)
  refine CallV.open_ (fun w' g _ hO hg => OwnNe.far hO hg) (fun w' hw _ => open_any v w' (h.below hw)) (fun g wa w1 hxa hne hg hR hx1 => ?_)
  repeat (first | refine jC ?_ | refine jN ?_ | refine jS ?_ | refine jR ?_ | refine jT ?_ | refine jB ?_ | refine jX rfl ?_ | refine jY rfl ?_ | refine jK ?_ | refine jD ?_ | refine jE ?_)
  refine CallV.pkS (g := g) hne (fun w' hw _ => path_vc g _ 3 w' (hR.below hw) (by omega) (by omega) (by omega)) (fun s p wb w2 hx2 hs hp hR2 hg2 => ?_)
  have hx12 := (hxa.trans hx1).trans hx2
  have hx : Vc.Ext w w2 := hx12.trans' (grown_below hg2 hx12.size (by have := hxa.size; omega))
  repeat (first | refine jC ?_ | refine jN ?_ | refine jS ?_ | refine jR ?_ | refine jT ?_ | refine jB ?_ | refine jX rfl ?_ | refine jY rfl ?_ | refine jK ?_ | refine jD ?_ | refine jE ?_)
  exact EndV.mk fun w' hw' => ⟨_, rfl, ⟨s, rfl, hs⟩, hx.trans hw'⟩
end Go.Proofs.YtlnlpholhnbifaaDoor
