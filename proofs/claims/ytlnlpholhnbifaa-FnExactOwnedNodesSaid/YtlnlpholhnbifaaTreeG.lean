/-
  Contracts: OwnedNodes of the program and of the reference.
  Conditions: none but bounds.
-/
import Derived.Test.YtlnlpholhnbifaaTreeV
namespace Go.Proofs.Ytlnlpholhnbifaa
open Go.RowKit Vc
attribute [local irreducible] WpC WpL WpD WpE WpB CallV QCallV Made AppV Ld LdN Ix EndV I64 MutN Mut CellsAt

/-- The nodes of a user among the first k. -/
def owns (ts : List Nd) (u : Int) : Nat → List Int
  | 0 => []
  | k + 1 => owns ts u k ++ (match ts[k]? with
    | some n => if n.owner = u then [(k : Int)] else []
    | none => [])
theorem owns_len (ts : List Nd) (u : Int) : ∀ k, (owns ts u k).length ≤ k
  | 0 => Nat.le_refl _
  | k + 1 => by
    have := owns_len ts u k
    unfold owns
    rw [List.length_append]
    split
    · split <;> simp <;> omega
    · simp; omega
theorem owns_yes {ts : List Nd} {u : Int} {k : Nat} {n : Nd} (h : ts[k]? = some n) (hn : n.owner = u) : owns ts u (k + 1) = owns ts u k ++ [(k : Int)] := by
  rw [owns, h]; simp [hn]
theorem owns_no {ts : List Nd} {u : Int} {k : Nat} {n : Nd} (h : ts[k]? = some n) (hn : n.owner ≠ u) : owns ts u (k + 1) = owns ts u k := by
  rw [owns, h]; simp [hn]
noncomputable def ownedOf (ts : List Nd) (u : Int) : List Int := if treeB ts = true then owns ts u ts.length else []
theorem ownedOf_len (ts : List Nd) (u : Int) : (ownedOf ts u).length ≤ ts.length := by
  unfold ownedOf
  split
  · exact owns_len _ _ _
  · simp
theorem iOwnedNodes_vc (ts : List Nd) (v : Value) (u : Int) (w : World) (hT : Tree w v ts) (hs : Sized ts) (hwf : ∀ n ∈ ts, n.wf) :
    Calls Try.prog 33 #[v, .int .i64 u] w fun e w' => ∃ v', e = .returned v' ∧ (∃ ad n cap, v' = .slice ad n cap ∧ Buf w.heap.size w' ad n cap 1 (ints (ownedOf ts u))) ∧ Ext w w' := by
  have hl := hs.1
  have hT0 := hT
  obtain ⟨ad, cap, rfl, hlc, hcm, hat⟩ := hT
  refine calls_of cx_ok Try.func33 Try.ntmps33 Try.results33 rfl rfl ?_
  repeat (first | refine WpL.cons ?_ | refine WpL.nil ?_ | refine WpC.seq ?_ | refine WpC.reg ?_ | refine WpC.ret ?_ | refine WpC.block ?_ | refine WpC.exit rfl ?_ | refine WpC.cond rfl ?_ | refine WpC.skip ?_ | refine WpD.cons ?_ | refine WpD.nil ?_)
  refine Made.mk fun g0 w0 hx0 hg1 hg2 hg3 _ => ?_
  have hb0 := Buf.made (sz := 1) hg1 hg2 hg3 0 rfl (by omega)
  repeat (first | refine WpL.cons ?_ | refine WpL.nil ?_ | refine WpC.seq ?_ | refine WpC.reg ?_ | refine WpC.ret ?_ | refine WpC.block ?_ | refine WpC.exit rfl ?_ | refine WpC.cond rfl ?_ | refine WpC.skip ?_ | refine WpD.cons ?_ | refine WpD.nil ?_)
  refine CallV.val (fun w' hw _ => iTreeValid_vc ts _ w' (hT0.ext (hx0.trans hw)) hs hwf) ?_
  repeat (first | refine WpL.cons ?_ | refine WpL.nil ?_ | refine WpC.seq ?_ | refine WpC.reg ?_ | refine WpC.ret ?_ | refine WpC.block ?_ | refine WpC.exit rfl ?_ | refine WpC.cond rfl ?_ | refine WpC.skip ?_ | refine WpD.cons ?_ | refine WpD.nil ?_)
  refine Br.intro (fun h1 => ?_) (fun h1 => ?_)
  · repeat (first | refine WpL.cons ?_ | refine WpL.nil ?_ | refine WpC.seq ?_ | refine WpC.reg ?_ | refine WpC.ret ?_ | refine WpC.block ?_ | refine WpC.exit rfl ?_ | refine WpC.cond rfl ?_ | refine WpC.skip ?_ | refine WpD.cons ?_ | refine WpD.nil ?_)
    refine EndV.mk fun w' hw' => ⟨_, rfl, ⟨_, _, _, rfl, ?_⟩, hx0.trans hw'⟩
    rw [ownedOf, if_neg (by simpa using h1)]
    exact hb0.ext hw'
  have h1 : treeB ts = true := by simpa using h1
  repeat (first | refine WpL.cons ?_ | refine WpL.nil ?_ | refine WpC.seq ?_ | refine WpC.reg ?_ | refine WpC.ret ?_ | refine WpC.block ?_ | refine WpC.exit rfl ?_ | refine WpC.cond rfl ?_ | refine WpC.skip ?_ | refine WpD.cons ?_ | refine WpD.nil ?_)
  refine WpC.loop (α := Nat × Option Addr × Nat × World) (fun x => ⟨[(1, .v (.int .i64 u)), (13, .v (.slice ad ts.length cap)), (14, .v (.int .i64 (ts.length : Int))), (15, .v (.int .i64 (x.1 : Int))), (5, .v (.slice x.2.1 (owns ts u x.1).length x.2.2.1))], [], x.2.2.2⟩)
    (fun x => x.1 ≤ ts.length ∧ Below w.heap.size w x.2.2.2 ∧ Buf w.heap.size x.2.2.2 x.2.1 (owns ts u x.1).length x.2.2.1 1 (ints (owns ts u x.1))) (fun x => ts.length - x.1) (0, some ⟨g0, 0, none⟩, 0, w0)
    ⟨Nat.zero_le _, hx0, hb0⟩ ⟨⟨rfl, rfl, rfl, rfl, rfl, trivial⟩, trivial, trivial, Ext.refl _⟩ ?_
  rintro ⟨k, ad', cap', wk⟩ ⟨hk, hx, hb⟩
  dsimp only at hk hx hb ⊢
  repeat (first | refine WpL.cons ?_ | refine WpL.nil ?_ | refine WpC.seq ?_ | refine WpC.reg ?_ | refine WpC.ret ?_ | refine WpC.block ?_ | refine WpC.exit rfl ?_ | refine WpC.cond rfl ?_ | refine WpC.skip ?_ | refine WpD.cons ?_ | refine WpD.nil ?_)
  refine Br.intro (fun h => ?_) (fun h => ?_)
  · have hlt : k < ts.length := by have := of_decide_eq_true h; omega
    obtain ⟨b, o, rfl, hbl, hc⟩ := hat (by omega)
    have hu : ts[k]? = some ts[k] := List.getElem?_eq_getElem hlt
    generalize ts[k] = n at hu
    obtain ⟨nv, kv, hcn, hN⟩ := hc k n hu
    obtain ⟨kad, kcap, rfl, hka⟩ := kids_open hN
    obtain ⟨nad, ncap, rfl, hna⟩ := names_open hN
    have hml := owns_len ts u k
    repeat (first | refine WpL.cons ?_ | refine WpL.nil ?_ | refine WpC.seq ?_ | refine WpC.reg ?_ | refine WpC.ret ?_ | refine WpC.block ?_ | refine WpC.exit rfl ?_ | refine WpC.cond rfl ?_ | refine WpC.skip ?_ | refine WpD.cons ?_ | refine WpD.nil ?_)
    refine Ix.mk k rfl hlt ?_
    repeat (first | refine WpL.cons ?_ | refine WpL.nil ?_ | refine WpC.seq ?_ | refine WpC.reg ?_ | refine WpC.ret ?_ | refine WpC.block ?_ | refine WpC.exit rfl ?_ | refine WpC.cond rfl ?_ | refine WpC.skip ?_ | refine WpD.cons ?_ | refine WpD.nil ?_)
    refine LdN.mk (hcn.below hx (.inr hbl)) rfl ?_
    repeat (first | refine WpL.cons ?_ | refine WpL.nil ?_ | refine WpC.seq ?_ | refine WpC.reg ?_ | refine WpC.ret ?_ | refine WpC.block ?_ | refine WpC.exit rfl ?_ | refine WpC.cond rfl ?_ | refine WpC.skip ?_ | refine WpD.cons ?_ | refine WpD.nil ?_)
    intro b1 hb1
    repeat (first | refine WpL.cons ?_ | refine WpL.nil ?_ | refine WpC.seq ?_ | refine WpC.reg ?_ | refine WpC.ret ?_ | refine WpC.block ?_ | refine WpC.exit rfl ?_ | refine WpC.cond rfl ?_ | refine WpC.skip ?_ | refine WpD.cons ?_ | refine WpD.nil ?_)
    refine ⟨by assumption, rfl, by simp, by simp [Value.oneCell'], ?_⟩
    repeat (first | refine WpL.cons ?_ | refine WpL.nil ?_ | refine WpC.seq ?_ | refine WpC.reg ?_ | refine WpC.ret ?_ | refine WpC.block ?_ | refine WpC.exit rfl ?_ | refine WpC.cond rfl ?_ | refine WpC.skip ?_ | refine WpD.cons ?_ | refine WpD.nil ?_)
    refine Br.intro (fun h2 => ?_) (fun h2 => ?_)
    · have hsn := owns_yes hu (of_decide_eq_true h2)
      repeat (first | refine WpL.cons ?_ | refine WpL.nil ?_ | refine WpC.seq ?_ | refine WpC.reg ?_ | refine WpC.ret ?_ | refine WpC.block ?_ | refine WpC.exit rfl ?_ | refine WpC.cond rfl ?_ | refine WpC.skip ?_ | refine WpD.cons ?_ | refine WpD.nil ?_)
      refine Made.mk fun g2 w2 hx2 hg21 hg22 hg23 hne => ?_
      repeat (first | refine WpL.cons ?_ | refine WpL.nil ?_ | refine WpC.seq ?_ | refine WpC.reg ?_ | refine WpC.ret ?_ | refine WpC.block ?_ | refine WpC.exit rfl ?_ | refine WpC.cond rfl ?_ | refine WpC.skip ?_ | refine WpD.cons ?_ | refine WpD.nil ?_)
      refine AppV.buf (hb.ext hx2) (news := [.int .i64 (k : Int)]) (CellsAt.of_block hg23 (fun i v hi => by simpa using hi)) rfl (by simp [Value.oneCell']) (fun p hp => ?_) (by omega) (by omega) rfl (by have := hx2.size; have := hx.size; omega) (fun ad3 cap3 A3 hb3 hx3 hf3 => ?_)
      · obtain ⟨g4, rfl, _, h4, _⟩ := hb.at_ p hp
        exact ⟨by show b1 ≠ g4; omega, trivial⟩
      repeat (first | refine WpL.cons ?_ | refine WpL.nil ?_ | refine WpC.seq ?_ | refine WpC.reg ?_ | refine WpC.ret ?_ | refine WpC.block ?_ | refine WpC.exit rfl ?_ | refine WpC.cond rfl ?_ | refine WpC.skip ?_ | refine WpD.cons ?_ | refine WpD.nil ?_)
      refine ⟨I64.mk (by omega), ?_⟩
      repeat (first | refine WpL.cons ?_ | refine WpL.nil ?_ | refine WpC.seq ?_ | refine WpC.reg ?_ | refine WpC.ret ?_ | refine WpC.block ?_ | refine WpC.exit rfl ?_ | refine WpC.cond rfl ?_ | refine WpC.skip ?_ | refine WpD.cons ?_ | refine WpD.nil ?_)
      have e : (owns ts u (k + 1)).length = (owns ts u k).length + 1 := by rw [hsn]; simp
      refine ⟨(k + 1, ad3, cap3, A3), ⟨hlt, hx.trans ((hx2.mono hx.size).trans hx3), ?_⟩, by show ts.length - (k + 1) < ts.length - k; omega, ⟨rfl, rfl, rfl, rfl, ?_, trivial⟩, trivial, trivial, Ext.refl _⟩
      · show Buf _ A3 ad3 (owns ts u (k + 1)).length cap3 1 (ints (owns ts u (k + 1)))
        rw [e, hsn, ints, List.map_append]
        exact hb3
      · show some _ = some _
        rw [e]
    · have hsn := owns_no hu (of_decide_eq_false h2)
      repeat (first | refine WpL.cons ?_ | refine WpL.nil ?_ | refine WpC.seq ?_ | refine WpC.reg ?_ | refine WpC.ret ?_ | refine WpC.block ?_ | refine WpC.exit rfl ?_ | refine WpC.cond rfl ?_ | refine WpC.skip ?_ | refine WpD.cons ?_ | refine WpD.nil ?_)
      refine ⟨I64.mk (by omega), ?_⟩
      repeat (first | refine WpL.cons ?_ | refine WpL.nil ?_ | refine WpC.seq ?_ | refine WpC.reg ?_ | refine WpC.ret ?_ | refine WpC.block ?_ | refine WpC.exit rfl ?_ | refine WpC.cond rfl ?_ | refine WpC.skip ?_ | refine WpD.cons ?_ | refine WpD.nil ?_)
      refine ⟨(k + 1, ad', cap', wk), ⟨hlt, hx, ?_⟩, by show ts.length - (k + 1) < ts.length - k; omega, ⟨rfl, rfl, rfl, rfl, ?_, trivial⟩, trivial, trivial, Ext.refl _⟩
      · show Buf _ wk ad' (owns ts u (k + 1)).length cap' 1 (ints (owns ts u (k + 1)))
        rw [hsn]; exact hb
      · show some _ = some _
        rw [hsn]
  · have hke : k = ts.length := by have := of_decide_eq_false h; omega
    subst hke
    repeat (first | refine WpL.cons ?_ | refine WpL.nil ?_ | refine WpC.seq ?_ | refine WpC.reg ?_ | refine WpC.ret ?_ | refine WpC.block ?_ | refine WpC.exit rfl ?_ | refine WpC.cond rfl ?_ | refine WpC.skip ?_ | refine WpD.cons ?_ | refine WpD.nil ?_)
    refine EndV.mk fun w' hw' => ⟨_, rfl, ⟨_, _, _, rfl, ?_⟩, Ext.trans' hx (hw'.mono hx.size)⟩
    rw [ownedOf, if_pos h1]
    exact hb.ext hw'
theorem sOwnedNodes_vc (ts : List Nd) (v : Value) (u : Int) (w : World) (hT : Tree w v ts) (hs : Sized ts) (hwf : ∀ n ∈ ts, n.wf) :
    Calls Try.prog 32 #[v, .int .i64 u] w fun e w' => ∃ v', e = .returned v' ∧ (∃ ad n cap, v' = .slice ad n cap ∧ Buf w.heap.size w' ad n cap 1 (ints (ownedOf ts u))) ∧ Ext w w' := by
  have hl := hs.1
  have hT0 := hT
  obtain ⟨ad, cap, rfl, hlc, hcm, hat⟩ := hT
  refine calls_of cx_ok Try.func32 Try.ntmps32 Try.results32 rfl rfl ?_
  repeat (first | refine WpL.cons ?_ | refine WpL.nil ?_ | refine WpC.seq ?_ | refine WpC.reg ?_ | refine WpC.ret ?_ | refine WpC.block ?_ | refine WpC.exit rfl ?_ | refine WpC.cond rfl ?_ | refine WpC.skip ?_ | refine WpD.cons ?_ | refine WpD.nil ?_)
  refine Made.mk fun g0 w0 hx0 hg1 hg2 hg3 _ => ?_
  have hb0 := Buf.made (sz := 1) hg1 hg2 hg3 0 rfl (by omega)
  repeat (first | refine WpL.cons ?_ | refine WpL.nil ?_ | refine WpC.seq ?_ | refine WpC.reg ?_ | refine WpC.ret ?_ | refine WpC.block ?_ | refine WpC.exit rfl ?_ | refine WpC.cond rfl ?_ | refine WpC.skip ?_ | refine WpD.cons ?_ | refine WpD.nil ?_)
  refine WpC.loop (α := Nat × Option Addr × Nat × World) (fun x => ⟨[(0, .v (.slice ad ts.length cap)), (1, .v (.int .i64 u)), (6, .v (.int .i64 (x.1 : Int))), (5, .v (.slice x.2.1 (owns ts u x.1).length x.2.2.1))], [], x.2.2.2⟩)
    (fun x => x.1 ≤ ts.length ∧ (x.1 = 0 ∨ treeB ts = true) ∧ Below w.heap.size w x.2.2.2 ∧ Buf w.heap.size x.2.2.2 x.2.1 (owns ts u x.1).length x.2.2.1 1 (ints (owns ts u x.1))) (fun x => ts.length - x.1) (0, some ⟨g0, 0, none⟩, 0, w0)
    ⟨Nat.zero_le _, .inl rfl, hx0, hb0⟩ ⟨⟨rfl, rfl, rfl, rfl, trivial⟩, trivial, trivial, Ext.refl _⟩ ?_
  rintro ⟨k, ad', cap', wk⟩ ⟨hk, hok, hx, hb⟩
  dsimp only at hk hok hx hb ⊢
  repeat (first | refine WpL.cons ?_ | refine WpL.nil ?_ | refine WpC.seq ?_ | refine WpC.reg ?_ | refine WpC.ret ?_ | refine WpC.block ?_ | refine WpC.exit rfl ?_ | refine WpC.cond rfl ?_ | refine WpC.skip ?_ | refine WpD.cons ?_ | refine WpD.nil ?_)
  refine Br.intro (fun h => ?_) (fun h => ?_)
  · have hlt : k < ts.length := by have := of_decide_eq_true h; omega
    obtain ⟨b, o, rfl, hbl, hc⟩ := hat (by omega)
    have hu : ts[k]? = some ts[k] := List.getElem?_eq_getElem hlt
    generalize ts[k] = n at hu
    obtain ⟨nv, kv, hcn, hN⟩ := hc k n hu
    have hml := owns_len ts u k
    have hTk : Tree wk _ ts := hT0.ext hx
    repeat (first | refine WpL.cons ?_ | refine WpL.nil ?_ | refine WpC.seq ?_ | refine WpC.reg ?_ | refine WpC.ret ?_ | refine WpC.block ?_ | refine WpC.exit rfl ?_ | refine WpC.cond rfl ?_ | refine WpC.skip ?_ | refine WpD.cons ?_ | refine WpD.nil ?_)
    refine CallV.val (fun w' hw _ => sTreeValid_vc ts _ w' (hTk.ext hw) hs hwf) ?_
    repeat (first | refine WpL.cons ?_ | refine WpL.nil ?_ | refine WpC.seq ?_ | refine WpC.reg ?_ | refine WpC.ret ?_ | refine WpC.block ?_ | refine WpC.exit rfl ?_ | refine WpC.cond rfl ?_ | refine WpC.skip ?_ | refine WpD.cons ?_ | refine WpD.nil ?_)
    refine Br.intro (fun h1 => ?_) (fun h1 => ?_)
    · repeat (first | refine WpL.cons ?_ | refine WpL.nil ?_ | refine WpC.seq ?_ | refine WpC.reg ?_ | refine WpC.ret ?_ | refine WpC.block ?_ | refine WpC.exit rfl ?_ | refine WpC.cond rfl ?_ | refine WpC.skip ?_ | refine WpD.cons ?_ | refine WpD.nil ?_)
      refine Ix.mk k rfl hlt ?_
      repeat (first | refine WpL.cons ?_ | refine WpL.nil ?_ | refine WpC.seq ?_ | refine WpC.reg ?_ | refine WpC.ret ?_ | refine WpC.block ?_ | refine WpC.exit rfl ?_ | refine WpC.cond rfl ?_ | refine WpC.skip ?_ | refine WpD.cons ?_ | refine WpD.nil ?_)
      refine Ld.mk ((hcn.below hx (.inr hbl)).out 1 _ rfl) ?_
      repeat (first | refine WpL.cons ?_ | refine WpL.nil ?_ | refine WpC.seq ?_ | refine WpC.reg ?_ | refine WpC.ret ?_ | refine WpC.block ?_ | refine WpC.exit rfl ?_ | refine WpC.cond rfl ?_ | refine WpC.skip ?_ | refine WpD.cons ?_ | refine WpD.nil ?_)
      refine Br.intro (fun h2 => ?_) (fun h2 => ?_)
      · have hsn := owns_yes hu (of_decide_eq_true h2)
        repeat (first | refine WpL.cons ?_ | refine WpL.nil ?_ | refine WpC.seq ?_ | refine WpC.reg ?_ | refine WpC.ret ?_ | refine WpC.block ?_ | refine WpC.exit rfl ?_ | refine WpC.cond rfl ?_ | refine WpC.skip ?_ | refine WpD.cons ?_ | refine WpD.nil ?_)
        refine Made.mk fun g2 w2 hx2 hg21 hg22 hg23 hne => ?_
        repeat (first | refine WpL.cons ?_ | refine WpL.nil ?_ | refine WpC.seq ?_ | refine WpC.reg ?_ | refine WpC.ret ?_ | refine WpC.block ?_ | refine WpC.exit rfl ?_ | refine WpC.cond rfl ?_ | refine WpC.skip ?_ | refine WpD.cons ?_ | refine WpD.nil ?_)
        refine AppV.buf (hb.ext hx2) (news := [.int .i64 (k : Int)]) (CellsAt.of_block hg23 (fun i v hi => by simpa using hi)) rfl (by simp [Value.oneCell']) (fun p hp => trivial) (by omega) (by omega) rfl (by have := hx2.size; have := hx.size; omega) (fun ad3 cap3 A3 hb3 hx3 hf3 => ?_)
        repeat (first | refine WpL.cons ?_ | refine WpL.nil ?_ | refine WpC.seq ?_ | refine WpC.reg ?_ | refine WpC.ret ?_ | refine WpC.block ?_ | refine WpC.exit rfl ?_ | refine WpC.cond rfl ?_ | refine WpC.skip ?_ | refine WpD.cons ?_ | refine WpD.nil ?_)
        refine ⟨I64.mk (by omega), ?_⟩
        repeat (first | refine WpL.cons ?_ | refine WpL.nil ?_ | refine WpC.seq ?_ | refine WpC.reg ?_ | refine WpC.ret ?_ | refine WpC.block ?_ | refine WpC.exit rfl ?_ | refine WpC.cond rfl ?_ | refine WpC.skip ?_ | refine WpD.cons ?_ | refine WpD.nil ?_)
        have e : (owns ts u (k + 1)).length = (owns ts u k).length + 1 := by rw [hsn]; simp
        refine ⟨(k + 1, ad3, cap3, A3), ⟨hlt, .inr h1, hx.trans ((hx2.mono hx.size).trans hx3), ?_⟩, by show ts.length - (k + 1) < ts.length - k; omega, ⟨rfl, rfl, rfl, ?_, trivial⟩, trivial, trivial, Ext.refl _⟩
        · show Buf _ A3 ad3 (owns ts u (k + 1)).length cap3 1 (ints (owns ts u (k + 1)))
          rw [e, hsn, ints, List.map_append]
          exact hb3
        · show some _ = some _
          rw [e]
      · have hsn := owns_no hu (of_decide_eq_false h2)
        repeat (first | refine WpL.cons ?_ | refine WpL.nil ?_ | refine WpC.seq ?_ | refine WpC.reg ?_ | refine WpC.ret ?_ | refine WpC.block ?_ | refine WpC.exit rfl ?_ | refine WpC.cond rfl ?_ | refine WpC.skip ?_ | refine WpD.cons ?_ | refine WpD.nil ?_)
        refine ⟨I64.mk (by omega), ?_⟩
        repeat (first | refine WpL.cons ?_ | refine WpL.nil ?_ | refine WpC.seq ?_ | refine WpC.reg ?_ | refine WpC.ret ?_ | refine WpC.block ?_ | refine WpC.exit rfl ?_ | refine WpC.cond rfl ?_ | refine WpC.skip ?_ | refine WpD.cons ?_ | refine WpD.nil ?_)
        refine ⟨(k + 1, ad', cap', wk), ⟨hlt, .inr h1, hx, ?_⟩, by show ts.length - (k + 1) < ts.length - k; omega, ⟨rfl, rfl, rfl, ?_, trivial⟩, trivial, trivial, Ext.refl _⟩
        · show Buf _ wk ad' (owns ts u (k + 1)).length cap' 1 (ints (owns ts u (k + 1)))
          rw [hsn]; exact hb
        · show some _ = some _
          rw [hsn]
    · have h1 : treeB ts = false := by simpa using h1
      have hk0 : k = 0 := hok.resolve_right (by simp [h1])
      subst hk0
      repeat (first | refine WpL.cons ?_ | refine WpL.nil ?_ | refine WpC.seq ?_ | refine WpC.reg ?_ | refine WpC.ret ?_ | refine WpC.block ?_ | refine WpC.exit rfl ?_ | refine WpC.cond rfl ?_ | refine WpC.skip ?_ | refine WpD.cons ?_ | refine WpD.nil ?_)
      refine EndV.mk fun w' hw' => ⟨_, rfl, ⟨_, _, _, rfl, ?_⟩, Ext.trans' hx (hw'.mono hx.size)⟩
      rw [ownedOf, if_neg (by simp [h1])]
      exact hb.ext hw'
  · have hke : k = ts.length := by have := of_decide_eq_false h; omega
    subst hke
    repeat (first | refine WpL.cons ?_ | refine WpL.nil ?_ | refine WpC.seq ?_ | refine WpC.reg ?_ | refine WpC.ret ?_ | refine WpC.block ?_ | refine WpC.exit rfl ?_ | refine WpC.cond rfl ?_ | refine WpC.skip ?_ | refine WpD.cons ?_ | refine WpD.nil ?_)
    refine EndV.mk fun w' hw' => ⟨_, rfl, ⟨_, _, _, rfl, ?_⟩, Ext.trans' hx (hw'.mono hx.size)⟩
    unfold ownedOf
    rcases hok with h0 | h0
    · have : owns ts u ts.length = [] := by rw [h0]; rfl
      rw [this] at hb ⊢
      simp only [ite_self]
      exact hb.ext hw'
    · rw [if_pos h0]
      exact hb.ext hw'
end Go.Proofs.Ytlnlpholhnbifaa
