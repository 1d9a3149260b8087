/-
  Contracts: all paths of a tree, the program's and the reference's.
  Conditions: bounds.
-/
import Derived.Test.YtlnlpholhnbifaaPathsF
import Derived.Test.YtlnlpholhnbifaaClone
import Derived.Test.YtlnlpholhnbifaaTreeV
import Derived.Test.YtlnlpholhnbifaaJoin
namespace Go.Proofs.Ytlnlpholhnbifaa
open Go.RowKit Vc
set_option linter.unusedVariables false
set_option maxHeartbeats 2000000
attribute [local irreducible] WpC WpL WpD WpE WpB CallV QCallV Made AppV Ld LdN Ix EndV I64 MutN Mut CellsAt

/-- The texts gathered so far, in a buffer of the call's own; what has turned since w. -/
structure PI (w0 w : World) (vo : Value) (g : Nat) (all : List ByteArray) (v' : Value) (g' : Nat) (w' : World) : Prop where
  buf : BufS w0.heap.size w'.heap.size w' v' all.length 1 (strs all) g'
  exc : ExcP (fun j => 0 < capV vo ∧ j = g) w w'
  blk : 0 < capV v' → (0 < capV vo ∧ g' = g) ∨ w.heap.size ≤ g'
theorem PI.ext {w0 w wk wz : World} {vo v' : Value} {g g' : Nat} {all : List ByteArray} (h : PI w0 w vo g all v' g' wk) (hx : Vc.Ext wk wz) : PI w0 w vo g all v' g' wz :=
  ⟨h.buf.ext hx hx.size, h.exc.trans (ExcP.of_ext hx), h.blk⟩
theorem PI.trans {w0 w wk w' : World} {vo vk v' : Value} {g gk g' : Nat} {all all' : List ByteArray} (h : PI w0 w vo g all vk gk wk) (k : PI w0 wk vk gk all' v' g' w') : PI w0 w vo g all' v' g' w' := by
  refine ⟨k.buf, ⟨k.exc.os.trans h.exc.os, k.exc.tape.trans h.exc.tape, k.exc.output.trans h.exc.output, Nat.le_trans h.exc.size k.exc.size, fun j hj hn => ?_⟩, fun hc => ?_⟩
  · rw [k.exc.block j (Nat.lt_of_lt_of_le hj h.exc.size) (fun e => ?_), h.exc.block j hj hn]
    rcases h.blk e.1 with ⟨h1, h2⟩ | h1
    · exact hn ⟨h1, by rw [e.2, h2]⟩
    · omega
  · rcases k.blk hc with ⟨h1, h2⟩ | h1
    · rw [h2]; exact h.blk h1
    · have := h.exc.size; omega
theorem PI.below {w0 w w' : World} {vo v' : Value} {n g g' : Nat} {xs : List Value} {all : List ByteArray} (h : PI w0 w vo g all v' g' w') (hx : Vc.Ext w0 w) (hO : BufS w0.heap.size w.heap.size w vo n 1 xs g) : Vc.Ext w0 w' :=
  hx.trans' (h.exc.below hx.size fun j hj e => by have := (hO.blk e.1).1; omega)
/-- What append leaves. -/
theorem PI.app {w0 w A : World} {vo v' : Value} {g g' o n : Nat} {all : List ByteArray} {xs ys : List Value} (hB : BufS w0.heap.size A.heap.size A v' all.length 1 (strs all) g') (hO : BufS w0.heap.size w.heap.size w vo n 1 ys g)
    (hw : (g' = g ∧ 0 < capV vo ∧ A = setL w g o xs) ∨ (w.heap.size ≤ g' ∧ Vc.Ext w A)) : PI w0 w vo g all v' g' A := by
  refine ⟨hB, ?_, fun hc => ?_⟩
  · rcases hw with ⟨_, h0, rfl⟩ | ⟨_, hx⟩
    · exact (ExcP.refl _ _).setL ⟨h0, rfl⟩ _ _
    · exact ExcP.of_ext hx
  · rcases hw with ⟨e, h0, _⟩ | ⟨h1, _⟩
    · exact .inl ⟨h0, e⟩
    · exact .inr h1
theorem app_ext {w0 w A : World} {g g' o : Nat} {cap : Nat} {xs : List Value} (hg : 0 < cap → w0.heap.size ≤ g) (hx : Vc.Ext w0 w) (hw : (g' = g ∧ 0 < cap ∧ A = setL w g o xs) ∨ (w.heap.size ≤ g' ∧ Vc.Ext w A)) : Vc.Ext w0 A := by
  rcases hw with ⟨_, h0, rfl⟩ | ⟨_, hx2⟩
  · exact hx.trans' (below_setL (Below.refl _ _) (hg h0) _ _)
  · exact hx.trans hx2

theorem iPaths_vc (ts : List Nd) (v : Value) (w0 : World) (hT : Tree w0 v ts) (hs : Sized ts) (hwf : ∀ n ∈ ts, n.wf) (hOk : TreeOk ts) :
    ∀ (f : Nat) (ps : List ByteArray) (i : Nat) (vo vp : Value) (xs : List ByteArray) (g gp : Nat) (w : World), ps.length + f = 7 → i < ts.length → Vc.Ext w0 w → BufS w0.heap.size w.heap.size w vo xs.length 1 (strs xs) g →
      BufS w0.heap.size w.heap.size w vp ps.length 1 (strs ps) gp → (0 < capV vo → 0 < capV vp → gp ≠ g) → (∀ s ∈ ps, s.size ≤ 9223372036854775807) → xs.length + (pathsF ts f i ps).length ≤ 8000000000000 →
      Calls Try.prog 53 #[v, vo, vp, .int .i64 (i : Int)] w fun e w' => ∃ v', e = .returned v' ∧ ∃ g', PI w0 w vo g (xs ++ pathsF ts f i ps) v' g' w' := by
  obtain ⟨ad, cap, rfl, hat⟩ := hT.node
  intro f
  induction f with
  | zero =>
    intro ps i vo vp xs g gp w hf hi hx hO hP hne hps hlen
    obtain ⟨adp, capp, rfl, _⟩ := id hP
    refine calls_of cx_ok Try.func53 Try.ntmps53 Try.results53 rfl rfl ?_
    repeat (first | refine jC ?_ | refine jN ?_ | refine jS ?_ | refine jR ?_ | refine jT ?_ | refine jB ?_ | refine jX rfl ?_ | refine jY rfl ?_ | refine jK ?_ | refine jD ?_ | refine jE ?_)
    refine Br.yes (by simp; omega) ?_
    repeat (first | refine jC ?_ | refine jN ?_ | refine jS ?_ | refine jR ?_ | refine jT ?_ | refine jB ?_ | refine jX rfl ?_ | refine jY rfl ?_ | refine jK ?_ | refine jD ?_ | refine jE ?_)
    refine EndV.mk fun w' hw' => ⟨_, rfl, g, ?_⟩
    rw [pathsF, List.append_nil]
    exact ⟨hO.ext hw' hw'.size, ExcP.of_ext hw', fun h => .inl ⟨h, rfl⟩⟩
  | succ f ih =>
    intro ps i vo vp xs g gp w hf hi hx hO hP hne hps hlen
    obtain ⟨adp, capp, rfl, _⟩ := id hP
    obtain ⟨ado, capo, rfl, _⟩ := id hO
    have hu : ts[i]? = some ts[i] := List.getElem?_eq_getElem hi
    have hmem := List.getElem_mem hi
    generalize ts[i] = n at hu hmem
    have hok := hOk.nodes i n hu
    have hkn := hok.len
    have hnwf := hwf n hmem
    have hsz := hs.2 n hmem
    obtain ⟨nb, no, nv, kv, rfl, hcn, hN⟩ := hat i n hu
    obtain ⟨kad, kcap, rfl, hka⟩ := kids_open hN
    obtain ⟨nad, ncap, rfl, hna⟩ := names_open hN
    have hall := belowF_all (f := f) (ps := ps) hu hkn
    have hbel := pathsF_len (f := f) (ps := ps) hu
    refine calls_of cx_ok Try.func53 Try.ntmps53 Try.results53 rfl rfl ?_
    repeat (first | refine jC ?_ | refine jN ?_ | refine jS ?_ | refine jR ?_ | refine jT ?_ | refine jB ?_ | refine jX rfl ?_ | refine jY rfl ?_ | refine jK ?_ | refine jD ?_ | refine jE ?_)
    refine Br.no (by simp; omega) ?_
    repeat (first | refine jC ?_ | refine jN ?_ | refine jS ?_ | refine jR ?_ | refine jT ?_ | refine jB ?_ | refine jX rfl ?_ | refine jY rfl ?_ | refine jK ?_ | refine jD ?_ | refine jE ?_)
    refine CallV.val (fun w' hw _ => iJoinPath_vc ps _ w' (hP.row1.ext hw) hps) ?_
    repeat (first | refine jC ?_ | refine jN ?_ | refine jS ?_ | refine jR ?_ | refine jT ?_ | refine jB ?_ | refine jX rfl ?_ | refine jY rfl ?_ | refine jK ?_ | refine jD ?_ | refine jE ?_)
    refine Made.mk fun g1 w1 hx1 hg11 hg12 hg13 _ => ?_
    repeat (first | refine jC ?_ | refine jN ?_ | refine jS ?_ | refine jR ?_ | refine jT ?_ | refine jB ?_ | refine jX rfl ?_ | refine jY rfl ?_ | refine jK ?_ | refine jD ?_ | refine jE ?_)
    have hO1 := hO.ext hx1 hx1.size
    have hx01 := hx.trans hx1
    have hk0 := hbel 0
    refine AppV.bufS hO1 (by omega) (news := [.string (joinB ps)]) (CellsAt.of_block hg13 (fun i v hi => by simpa using hi)) rfl (by simp [Value.oneCell']) (fun _ => trivial) (by omega) (by omega) rfl hx01.size (Nat.le_refl _) (fun v1 A1 ga hB1 hc1 hw1 => ?_)
    have eall : strs xs ++ [(.string (joinB ps) : Value)] = strs (xs ++ [joinB ps]) := by simp
    rw [eall] at hB1
    have hB1' : BufS w0.heap.size A1.heap.size A1 v1 (xs ++ [joinB ps]).length 1 (strs (xs ++ [joinB ps])) ga := by rw [List.length_append]; exact hB1
    have hPI0 := PI.app hB1' hO1 hw1
    have hPI : PI w0 w (.slice ado xs.length capo) g (xs ++ joinB ps :: belowF ts f n ps 0) v1 ga A1 := by
      rw [belowF_zero]
      exact PI.trans (all := xs) ⟨hO1, ExcP.of_ext hx1, fun h => .inl ⟨h, rfl⟩⟩ hPI0
    have hxA := hPI.below hx hO
    repeat (first | refine jC ?_ | refine jN ?_ | refine jS ?_ | refine jR ?_ | refine jT ?_ | refine jB ?_ | refine jX rfl ?_ | refine jY rfl ?_ | refine jK ?_ | refine jD ?_ | refine jE ?_)
    refine Ix.mk i rfl hi ?_
    repeat (first | refine jC ?_ | refine jN ?_ | refine jS ?_ | refine jR ?_ | refine jT ?_ | refine jB ?_ | refine jX rfl ?_ | refine jY rfl ?_ | refine jK ?_ | refine jD ?_ | refine jE ?_)
    refine Ld.mk ((hcn.ext hxA).out 5 _ rfl) ?_
    repeat (first | refine jC ?_ | refine jN ?_ | refine jS ?_ | refine jR ?_ | refine jT ?_ | refine jB ?_ | refine jX rfl ?_ | refine jY rfl ?_ | refine jK ?_ | refine jD ?_ | refine jE ?_)
    refine WpC.loop (α := Nat × Value × Nat × World) (fun x => ⟨[(0, .v (.slice (some ⟨nb, no, none⟩) ts.length cap)), (1, .v x.2.1), (2, .v (.slice adp ps.length capp)), (3, .v (.int .i64 (i : Int))), (24, .v (.slice nad n.names.length ncap)), (25, .v (.int .i64 (n.names.length : Int))), (26, .v (.int .i64 (x.1 : Int)))], [], x.2.2.2⟩)
      (fun x => x.1 ≤ n.names.length ∧ PI w0 w (.slice ado xs.length capo) g (xs ++ joinB ps :: belowF ts f n ps x.1) x.2.1 x.2.2.1 x.2.2.2) (fun x => n.names.length - x.1) (0, v1, ga, A1)
      ⟨Nat.zero_le _, hPI⟩ ⟨⟨rfl, rfl, rfl, rfl, rfl, rfl, rfl, trivial⟩, trivial, trivial, Vc.Ext.refl _⟩ ?_
    rintro ⟨k, vk, gk, wk⟩ ⟨hk, hI⟩
    dsimp only at hk hI ⊢
    have hxk := hI.below hx hO
    obtain ⟨adk, capk, evk, _⟩ := id hI.buf
    subst evk
    have hPk : BufS w0.heap.size wk.heap.size wk (.slice adp ps.length capp) ps.length 1 (strs ps) gp := hP.exc hI.exc (fun hc e => hne e.1 hc e.2) (Nat.le_refl _) hI.exc.size
    have hgpk : 0 < capV (.slice adp ps.length capp) → gp < w.heap.size := fun hc => (hP.blk hc).2
    repeat (first | refine jC ?_ | refine jN ?_ | refine jS ?_ | refine jR ?_ | refine jT ?_ | refine jB ?_ | refine jX rfl ?_ | refine jY rfl ?_ | refine jK ?_ | refine jD ?_ | refine jE ?_)
    refine Br.intro (fun h => ?_) (fun h => ?_)
    · have hlt : k < n.names.length := by have := of_decide_eq_true h; omega
      have hlt2 : k < n.kids.length := by omega
      have hu1 : n.names[k]? = some n.names[k] := List.getElem?_eq_getElem hlt
      have hu2 : n.kids[k]? = some n.kids[k] := List.getElem?_eq_getElem hlt2
      have hsw := hnwf.2.2.2.2.1 _ (List.getElem_mem hlt)
      have hkd := hOk.kids i n hu _ (List.getElem_mem hlt2)
      generalize n.names[k] = y at hu1 hsw
      generalize n.kids[k] = q at hu2 hkd
      obtain ⟨c, rfl⟩ := Int.eq_ofNat_of_zero_le (show 0 ≤ q by omega)
      obtain ⟨nb2, no2, rfl, hnb, hnc⟩ := hna (by omega)
      obtain ⟨kb, ko, rfl, hkb, hkc⟩ := hka (by omega)
      have hbs := belowF_succ (ts := ts) (f := f) (ps := ps) hu1 hu2
      rw [Int.toNat_natCast] at hbs
      have hk1 := hbel (k + 1)
      rw [hbs, List.length_append] at hk1
      repeat (first | refine jC ?_ | refine jN ?_ | refine jS ?_ | refine jR ?_ | refine jT ?_ | refine jB ?_ | refine jX rfl ?_ | refine jY rfl ?_ | refine jK ?_ | refine jD ?_ | refine jE ?_)
      refine Ix.mk k rfl hlt ?_
      repeat (first | refine jC ?_ | refine jN ?_ | refine jS ?_ | refine jR ?_ | refine jT ?_ | refine jB ?_ | refine jX rfl ?_ | refine jY rfl ?_ | refine jK ?_ | refine jD ?_ | refine jE ?_)
      refine Ld.mk ((hnc.ext hxk).out k _ (strs_get hu1)) ?_
      repeat (first | refine jC ?_ | refine jN ?_ | refine jS ?_ | refine jR ?_ | refine jT ?_ | refine jB ?_ | refine jX rfl ?_ | refine jY rfl ?_ | refine jK ?_ | refine jD ?_ | refine jE ?_)
      refine WpC.drawD (Vc.Ext w0) (fun w' hw => hxk.trans hw) (.st 0 (.st 1 (.st 2 (.st 4 (.st 7 (.st 8 (.st 9 (.st 10 (.st 11 (.st 12 (.st 13 (.st 14 (.ef 3 (.ef 5 (.ef 6 (.ef 15 (.st 16 .done) .done) .done) .done) (.ef 5 (.ef 3 (.ef 6 (.ef 15 (.st 16 .done) .done) .done) .done) .done)))))))))))))) [(0, .mv), (1, .mv), (2, .mv), (3, .ef), (4, .mv), (5, .ef), (6, .ef), (7, .mv), (8, .mv), (12, .mv), (15, .ef), (16, .mv)] (by kernel_rfl) ?_
      repeat (first | refine uM ?_ | refine uR ?_ | refine uE ?_ | refine uB ?_ | refine uA ?_ | refine uD ?_ | refine jC ?_ | refine jN ?_ | refine jS ?_ | refine jR ?_ | refine jT ?_ | refine jB ?_ | refine jX rfl ?_ | refine jY rfl ?_ | refine jK ?_ | refine jD ?_ | refine jE ?_)
      refine Ix.mk i rfl hi ?_
      repeat (first | refine uM ?_ | refine uR ?_ | refine uE ?_ | refine uB ?_ | refine uA ?_ | refine uD ?_ | refine jC ?_ | refine jN ?_ | refine jS ?_ | refine jR ?_ | refine jT ?_ | refine jB ?_ | refine jX rfl ?_ | refine jY rfl ?_ | refine jK ?_ | refine jD ?_ | refine jE ?_)
      refine Ld.mk (hcn.out 6 _ rfl) ?_
      repeat (first | refine uM ?_ | refine uR ?_ | refine uE ?_ | refine uB ?_ | refine uA ?_ | refine uD ?_ | refine jC ?_ | refine jN ?_ | refine jS ?_ | refine jR ?_ | refine jT ?_ | refine jB ?_ | refine jX rfl ?_ | refine jY rfl ?_ | refine jK ?_ | refine jD ?_ | refine jE ?_)
      refine Ix.mk k rfl hlt2 ?_
      repeat (first | refine uM ?_ | refine uR ?_ | refine uE ?_ | refine uB ?_ | refine uA ?_ | refine uD ?_ | refine jC ?_ | refine jN ?_ | refine jS ?_ | refine jR ?_ | refine jT ?_ | refine jB ?_ | refine jX rfl ?_ | refine jY rfl ?_ | refine jK ?_ | refine jD ?_ | refine jE ?_)
      refine Ld.mk (hkc.out k _ (by rw [List.getElem?_map, hu2]; rfl)) ?_
      repeat (first | refine uM ?_ | refine uR ?_ | refine uE ?_ | refine uB ?_ | refine uA ?_ | refine uD ?_ | refine jC ?_ | refine jN ?_ | refine jS ?_ | refine jR ?_ | refine jT ?_ | refine jB ?_ | refine jX rfl ?_ | refine jY rfl ?_ | refine jK ?_ | refine jD ?_ | refine jE ?_)
      refine WpE.ef2 (by exact rfl) (by exact rfl) ?_ ?_
      · refine CallV.mem _ (fun w' hw _ => cloneS_call ps _ w' (hPk.row1.ext hw) (by omega)) (fun xc wa wb hxa hxb _ ⟨gc, hBc⟩ => ?_)
        have hxkb := hxa.trans hxb
        refine ⟨Keep.mk fun w' hw => (hxk.trans hxkb).trans hw, ?_⟩
        repeat (first | refine uM ?_ | refine uR ?_ | refine uE ?_ | refine uB ?_ | refine uA ?_ | refine uD ?_ | refine jC ?_ | refine jN ?_ | refine jS ?_ | refine jR ?_ | refine jT ?_ | refine jB ?_ | refine jX rfl ?_ | refine jY rfl ?_ | refine jK ?_ | refine jD ?_ | refine jE ?_)
        refine Made.mk fun gl wq hq hgl1 hgl2 hgl3 _ => ?_
        have hBq := hBc.ext hq hq.size
        have hKQ := hxkb.trans hq
        have hlo := hxa.size
        have hlq := (hxb.trans hq).size
        refine ⟨Keep.mk fun w' hw => (hxk.trans (hxkb.trans hq)).trans hw, ?_⟩
        obtain ⟨adc, capc, rfl, _⟩ := id hBq
        repeat (first | refine uM ?_ | refine uR ?_ | refine uE ?_ | refine uB ?_ | refine uA ?_ | refine uD ?_ | refine jC ?_ | refine jN ?_ | refine jS ?_ | refine jR ?_ | refine jT ?_ | refine jB ?_ | refine jX rfl ?_ | refine jY rfl ?_ | refine jK ?_ | refine jD ?_ | refine jE ?_)
        refine AppV.bufS hBq (by omega) (news := [.string y]) (CellsAt.of_block hgl3 (fun i v hi => by simpa using hi)) rfl (by simp [Value.oneCell']) (fun _ => trivial) (by omega) (by omega) rfl hlq (Nat.le_refl _) (fun v2 A2 g2 hB2 hc2 hw2 => ?_)
        have hxA2 : Vc.Ext wk A2 := app_ext (fun hc => by have := (hBq.blk (v := .slice adc ps.length capc) hc).1; omega) hKQ hw2
        refine ⟨Keep.mk fun w' hw => (hxk.trans hxA2).trans hw, ?_⟩
        repeat (first | refine uM ?_ | refine uR ?_ | refine uE ?_ | refine uB ?_ | refine uA ?_ | refine uD ?_ | refine jC ?_ | refine jN ?_ | refine jS ?_ | refine jR ?_ | refine jT ?_ | refine jB ?_ | refine jX rfl ?_ | refine jY rfl ?_ | refine jK ?_ | refine jD ?_ | refine jE ?_)
        have eps : strs ps ++ [(.string y : Value)] = strs (ps ++ [y]) := by simp
        rw [eps] at hB2
        have hB2' : BufS w0.heap.size A2.heap.size A2 v2 (ps ++ [y]).length 1 (strs (ps ++ [y])) g2 := by
          rw [List.length_append]; exact hB2.low (by have := hxk.size; omega)
        have hlow := (hB2.blk hc2).1
        refine CallV.turn (Φ := fun v' w w' => ∃ g', PI w0 w (.slice adk (xs ++ joinB ps :: belowF ts f n ps k).length capk) gk ((xs ++ joinB ps :: belowF ts f n ps k) ++ pathsF ts f c (ps ++ [y])) v' g' w') (fun w' hw _ => ?_) (fun v3 w3 w4 hw3 ⟨g3, hP3⟩ => ?_)
        · refine ih (ps ++ [y]) c _ v2 _ gk g2 w' (by simp; omega) (by omega) ((hxk.trans hxA2).trans hw) (hI.buf.ext (hxA2.trans hw) (hxA2.trans hw).size) (hB2'.ext hw hw.size) (fun hc _ => by have := (hI.buf.blk hc).2; omega) (fun s hs => ?_) (by simp only [List.length_append, List.length_cons]; omega)
          rcases List.mem_append.1 hs with h | h
          · exact hps s h
          · rw [List.mem_singleton.1 h]; exact hsw
        have hI3 := PI.trans (hI.ext (hxA2.trans hw3)) hP3
        have hx3 := hI3.below hx hO
        have eall2 : (xs ++ joinB ps :: belowF ts f n ps k) ++ pathsF ts f c (ps ++ [y]) = xs ++ joinB ps :: belowF ts f n ps (k + 1) := by rw [hbs]; simp
        rw [eall2] at hI3
        refine ⟨Keep.mk fun w' hw => hx3.trans hw, ?_⟩
        repeat (first | refine uM ?_ | refine uR ?_ | refine uE ?_ | refine uB ?_ | refine uA ?_ | refine uD ?_ | refine jC ?_ | refine jN ?_ | refine jS ?_ | refine jR ?_ | refine jT ?_ | refine jB ?_ | refine jX rfl ?_ | refine jY rfl ?_ | refine jK ?_ | refine jD ?_ | refine jE ?_)
        refine ⟨I64.mk (by omega), ?_⟩
        repeat (first | refine jC ?_ | refine jN ?_ | refine jS ?_ | refine jR ?_ | refine jT ?_ | refine jB ?_ | refine jX rfl ?_ | refine jY rfl ?_ | refine jK ?_ | refine jD ?_ | refine jE ?_)
        exact ⟨(k + 1, v3, g3, w4), ⟨hlt, hI3⟩, by show n.names.length - (k + 1) < n.names.length - k; omega, ⟨rfl, rfl, rfl, rfl, rfl, rfl, rfl, trivial⟩, trivial, trivial, Vc.Ext.refl _⟩
      · repeat (first | refine uM ?_ | refine uR ?_ | refine uE ?_ | refine uB ?_ | refine uA ?_ | refine uD ?_ | refine jC ?_ | refine jN ?_ | refine jS ?_ | refine jR ?_ | refine jT ?_ | refine jB ?_ | refine jX rfl ?_ | refine jY rfl ?_ | refine jK ?_ | refine jD ?_ | refine jE ?_)
        refine Made.mk fun gl wa hxa hgl1 hgl2 hgl3 _ => ?_
        refine ⟨Keep.mk fun w' hw => (hxk.trans hxa).trans hw, ?_⟩
        repeat (first | refine uM ?_ | refine uR ?_ | refine uE ?_ | refine uB ?_ | refine uA ?_ | refine uD ?_ | refine jC ?_ | refine jN ?_ | refine jS ?_ | refine jR ?_ | refine jT ?_ | refine jB ?_ | refine jX rfl ?_ | refine jY rfl ?_ | refine jK ?_ | refine jD ?_ | refine jE ?_)
        refine CallV.mem _ (fun w' hw _ => cloneS_call ps _ w' (hPk.row1.ext (hxa.trans hw)) (by omega)) (fun xc wp wq hq1 hq2 _ ⟨gc, hBq⟩ => ?_)
        have hq := hq1.trans hq2
        have hKQ := hxa.trans hq
        have hlo := (hxa.trans hq1).size
        have hlq := hq2.size
        have hgl3 := (hq.block gl hgl2).trans hgl3
        refine ⟨Keep.mk fun w' hw => (hxk.trans (hxa.trans hq)).trans hw, ?_⟩
        obtain ⟨adc, capc, rfl, _⟩ := id hBq
        repeat (first | refine uM ?_ | refine uR ?_ | refine uE ?_ | refine uB ?_ | refine uA ?_ | refine uD ?_ | refine jC ?_ | refine jN ?_ | refine jS ?_ | refine jR ?_ | refine jT ?_ | refine jB ?_ | refine jX rfl ?_ | refine jY rfl ?_ | refine jK ?_ | refine jD ?_ | refine jE ?_)
        refine AppV.bufS hBq (by omega) (news := [.string y]) (CellsAt.of_block hgl3 (fun i v hi => by simpa using hi)) rfl (by simp [Value.oneCell']) (fun _ => trivial) (by omega) (by omega) rfl hlq (Nat.le_refl _) (fun v2 A2 g2 hB2 hc2 hw2 => ?_)
        have hxA2 : Vc.Ext wk A2 := app_ext (fun hc => by have := (hBq.blk (v := .slice adc ps.length capc) hc).1; omega) hKQ hw2
        refine ⟨Keep.mk fun w' hw => (hxk.trans hxA2).trans hw, ?_⟩
        repeat (first | refine uM ?_ | refine uR ?_ | refine uE ?_ | refine uB ?_ | refine uA ?_ | refine uD ?_ | refine jC ?_ | refine jN ?_ | refine jS ?_ | refine jR ?_ | refine jT ?_ | refine jB ?_ | refine jX rfl ?_ | refine jY rfl ?_ | refine jK ?_ | refine jD ?_ | refine jE ?_)
        have eps : strs ps ++ [(.string y : Value)] = strs (ps ++ [y]) := by simp
        rw [eps] at hB2
        have hB2' : BufS w0.heap.size A2.heap.size A2 v2 (ps ++ [y]).length 1 (strs (ps ++ [y])) g2 := by
          rw [List.length_append]; exact hB2.low (by have := hxk.size; omega)
        have hlow := (hB2.blk hc2).1
        refine CallV.turn (Φ := fun v' w w' => ∃ g', PI w0 w (.slice adk (xs ++ joinB ps :: belowF ts f n ps k).length capk) gk ((xs ++ joinB ps :: belowF ts f n ps k) ++ pathsF ts f c (ps ++ [y])) v' g' w') (fun w' hw _ => ?_) (fun v3 w3 w4 hw3 ⟨g3, hP3⟩ => ?_)
        · refine ih (ps ++ [y]) c _ v2 _ gk g2 w' (by simp; omega) (by omega) ((hxk.trans hxA2).trans hw) (hI.buf.ext (hxA2.trans hw) (hxA2.trans hw).size) (hB2'.ext hw hw.size) (fun hc _ => by have := (hI.buf.blk hc).2; omega) (fun s hs => ?_) (by simp only [List.length_append, List.length_cons]; omega)
          rcases List.mem_append.1 hs with h | h
          · exact hps s h
          · rw [List.mem_singleton.1 h]; exact hsw
        have hI3 := PI.trans (hI.ext (hxA2.trans hw3)) hP3
        have hx3 := hI3.below hx hO
        have eall2 : (xs ++ joinB ps :: belowF ts f n ps k) ++ pathsF ts f c (ps ++ [y]) = xs ++ joinB ps :: belowF ts f n ps (k + 1) := by rw [hbs]; simp
        rw [eall2] at hI3
        refine ⟨Keep.mk fun w' hw => hx3.trans hw, ?_⟩
        repeat (first | refine uM ?_ | refine uR ?_ | refine uE ?_ | refine uB ?_ | refine uA ?_ | refine uD ?_ | refine jC ?_ | refine jN ?_ | refine jS ?_ | refine jR ?_ | refine jT ?_ | refine jB ?_ | refine jX rfl ?_ | refine jY rfl ?_ | refine jK ?_ | refine jD ?_ | refine jE ?_)
        refine ⟨I64.mk (by omega), ?_⟩
        repeat (first | refine jC ?_ | refine jN ?_ | refine jS ?_ | refine jR ?_ | refine jT ?_ | refine jB ?_ | refine jX rfl ?_ | refine jY rfl ?_ | refine jK ?_ | refine jD ?_ | refine jE ?_)
        exact ⟨(k + 1, v3, g3, w4), ⟨hlt, hI3⟩, by show n.names.length - (k + 1) < n.names.length - k; omega, ⟨rfl, rfl, rfl, rfl, rfl, rfl, rfl, trivial⟩, trivial, trivial, Vc.Ext.refl _⟩
    · have hke : k = n.names.length := by have := of_decide_eq_false h; omega
      subst hke
      simp only [hall] at hI ⊢
      repeat (first | refine jC ?_ | refine jN ?_ | refine jS ?_ | refine jR ?_ | refine jT ?_ | refine jB ?_ | refine jX rfl ?_ | refine jY rfl ?_ | refine jK ?_ | refine jD ?_ | refine jE ?_)
      exact EndV.mk fun w' hw' => ⟨_, rfl, gk, hI.ext hw'⟩
theorem iPathsOf_vc (ts : List Nd) (v : Value) (w : World) (hT : Tree w v ts) (hs : Sized ts) (hwf : ∀ n ∈ ts, n.wf) :
    Calls Try.prog 30 #[v] w fun e w' => ∃ v', e = .returned v' ∧ (∃ g, BufS w.heap.size w'.heap.size w' v' (pathsOfF ts).length 1 (strs (pathsOfF ts)) g) ∧ Vc.Ext w w' := by
  have hlen := pathsOfF_len (ts := ts) fun n hn => (hs.2 n hn).1
  refine calls_of cx_ok Try.func30 Try.ntmps30 Try.results30 rfl rfl ?_
  repeat (first | refine jC ?_ | refine jN ?_ | refine jS ?_ | refine jR ?_ | refine jT ?_ | refine jB ?_ | refine jX rfl ?_ | refine jY rfl ?_ | refine jK ?_ | refine jD ?_ | refine jE ?_)
  refine CallV.val (fun w' hw _ => iTreeValid_vc ts v w' (hT.ext hw) hs hwf) ?_
  repeat (first | refine jC ?_ | refine jN ?_ | refine jS ?_ | refine jR ?_ | refine jT ?_ | refine jB ?_ | refine jX rfl ?_ | refine jY rfl ?_ | refine jK ?_ | refine jD ?_ | refine jE ?_)
  refine Br.intro (fun h => ?_) (fun h => ?_)
  · have e : pathsOfF ts = [] := by rw [pathsOfF, if_neg (by simpa using h)]
    rw [e]
    repeat (first | refine jC ?_ | refine jN ?_ | refine jS ?_ | refine jR ?_ | refine jT ?_ | refine jB ?_ | refine jX rfl ?_ | refine jY rfl ?_ | refine jK ?_ | refine jD ?_ | refine jE ?_)
    exact EndV.mk fun w' hw' => ⟨_, rfl, ⟨0, BufS.nil _ _ _ _ _⟩, hw'⟩
  · have hb : treeB ts = true := by simpa using h
    have e : pathsOfF ts = pathsF ts 7 0 [] := by rw [pathsOfF, if_pos hb]
    rw [e] at hlen ⊢
    have hOk := treeB_iff.1 hb
    have hlo := hOk.lo
    repeat (first | refine jC ?_ | refine jN ?_ | refine jS ?_ | refine jR ?_ | refine jT ?_ | refine jB ?_ | refine jX rfl ?_ | refine jY rfl ?_ | refine jK ?_ | refine jD ?_ | refine jE ?_)
    refine CallV.turn (Φ := fun v' w1 w' => ∃ g', PI w1 w1 (.slice none 0 0) 0 ([] ++ pathsF ts 7 0 []) v' g' w') (fun w' hw _ => iPaths_vc ts v w' (hT.ext hw) hs hwf hOk 7 [] 0 (.slice none 0 0) (.slice none 0 0) [] 0 0 w' rfl (by omega) (Vc.Ext.refl _) (BufS.nil _ _ _ _ _) (BufS.nil _ _ _ _ _) (fun h => absurd h (by simp [capV])) (by simp) (by simp; omega)) (fun v3 w3 w4 hw3 ⟨g3, hP3⟩ => ?_)
    have hx4 := hP3.below (Vc.Ext.refl _) (BufS.nil _ _ _ _ _)
    repeat (first | refine jC ?_ | refine jN ?_ | refine jS ?_ | refine jR ?_ | refine jT ?_ | refine jB ?_ | refine jX rfl ?_ | refine jY rfl ?_ | refine jK ?_ | refine jD ?_ | refine jE ?_)
    refine EndV.mk fun w' hw' => ⟨_, rfl, ⟨g3, ?_⟩, (hw3.trans hx4).trans hw'⟩
    have := (hP3.buf.ext hw' hw'.size).low hw3.size
    simpa using this
theorem sPaths_step (ts : List Nd) (hs : Sized ts) (hwf : ∀ n ∈ ts, n.wf) (hOk : TreeOk ts) (v : Value) (f : Nat)
    (hrec : ∀ f', f = f' + 1 → ∀ (ps : List ByteArray) (i : Nat) (vp : Value) (w : World), ps.length + f' = 6 → i < ts.length → Tree w v ts → Row1 w vp (strs ps) → (∀ s ∈ ps, s.size ≤ 9223372036854775807) → (pathsF ts (f' + 1) i ps).length ≤ 8000000000000 →
      Calls Try.prog 55 #[v, .int .i64 (i : Int), vp] w fun e w' => ∃ v', e = .returned v' ∧ (∃ g, BufS w.heap.size w'.heap.size w' v' (pathsF ts (f' + 1) i ps).length 1 (strs (pathsF ts (f' + 1) i ps)) g) ∧ Vc.Ext w w')
    (ps : List ByteArray) (i : Nat) (vp : Value) (w : World) (hf : ps.length + f = 6) (hi : i < ts.length) (hT : Tree w v ts) (hP : Row1 w vp (strs ps)) (hps : ∀ s ∈ ps, s.size ≤ 9223372036854775807) (hlen : (pathsF ts (f + 1) i ps).length ≤ 8000000000000) :
      Calls Try.prog 55 #[v, .int .i64 (i : Int), vp] w fun e w' => ∃ v', e = .returned v' ∧ (∃ g, BufS w.heap.size w'.heap.size w' v' (pathsF ts (f + 1) i ps).length 1 (strs (pathsF ts (f + 1) i ps)) g) ∧ Vc.Ext w w' := by
  obtain ⟨ad, cap, rfl, hat⟩ := hT.node
  obtain ⟨adp, capp, rfl, hpc⟩ := id hP
  have hpl : (strs ps).length = ps.length := by simp
  rw [hpl] at hpc hP ⊢
  have hu : ts[i]? = some ts[i] := List.getElem?_eq_getElem hi
  have hmem := List.getElem_mem hi
  generalize ts[i] = n at hu hmem
  have hok := hOk.nodes i n hu
  have hkn := hok.len
  have hnwf := hwf n hmem
  have hsz := hs.2 n hmem
  obtain ⟨nb, no, nv, kv, rfl, hcn, hN⟩ := hat i n hu
  obtain ⟨kad, kcap, rfl, hka⟩ := kids_open hN
  obtain ⟨nad, ncap, rfl, hna⟩ := names_open hN
  have hall := belowF_all (f := f) (ps := ps) hu hkn
  have hbel := pathsF_len (f := f) (ps := ps) hu
  refine calls_of cx_ok Try.func55 Try.ntmps55 Try.results55 rfl rfl ?_
  repeat (first | refine jC ?_ | refine jN ?_ | refine jS ?_ | refine jR ?_ | refine jT ?_ | refine jB ?_ | refine jX rfl ?_ | refine jY rfl ?_ | refine jK ?_ | refine jD ?_ | refine jE ?_)
  refine CallV.val (fun w' hw _ => sJoinPath_vc ps _ w' (hP.ext hw) hps) ?_
  repeat (first | refine jC ?_ | refine jN ?_ | refine jS ?_ | refine jR ?_ | refine jT ?_ | refine jB ?_ | refine jX rfl ?_ | refine jY rfl ?_ | refine jK ?_ | refine jD ?_ | refine jE ?_)
  refine Made.mk fun g1 w1 hx1 hg11 hg12 hg13 _ => ?_
  repeat (first | refine jC ?_ | refine jN ?_ | refine jS ?_ | refine jR ?_ | refine jT ?_ | refine jB ?_ | refine jX rfl ?_ | refine jY rfl ?_ | refine jK ?_ | refine jD ?_ | refine jE ?_)
  have hB0 : BufS w.heap.size w1.heap.size w1 (.slice (some ⟨g1, 0, none⟩) 1 1) (joinB ps :: belowF ts f n ps 0).length 1 (strs (joinB ps :: belowF ts f n ps 0)) g1 := by
    rw [belowF_zero]
    exact ⟨_, 1, rfl, by simp, by omega, by simp, fun p e => by cases e; exact ⟨_, _, rfl⟩, fun _ => ⟨rfl, hg11, hg12, MutN.of_block hg13 (by simp), CellsAt.of_block hg13 fun i v hi => by simpa using hi⟩⟩
  refine WpC.loop (α := Nat × Value × Nat × World) (fun x => ⟨[(0, .v (.slice (some ⟨nb, no, none⟩) ts.length cap)), (1, .v (.int .i64 (i : Int))), (2, .v (.slice adp ps.length capp)), (7, .v x.2.1), (8, .v (.int .i64 (x.1 : Int)))], [], x.2.2.2⟩)
    (fun x => x.1 ≤ n.names.length ∧ Vc.Ext w x.2.2.2 ∧ BufS w.heap.size x.2.2.2.heap.size x.2.2.2 x.2.1 (joinB ps :: belowF ts f n ps x.1).length 1 (strs (joinB ps :: belowF ts f n ps x.1)) x.2.2.1) (fun x => n.names.length - x.1) (0, .slice (some ⟨g1, 0, none⟩) 1 1, g1, w1)
    ⟨Nat.zero_le _, hx1, hB0⟩ ⟨⟨rfl, rfl, rfl, rfl, rfl, trivial⟩, trivial, trivial, Vc.Ext.refl _⟩ ?_
  rintro ⟨k, vk, gk, wk⟩ ⟨hk, hxk, hB⟩
  dsimp only at hk hxk hB ⊢
  have hzk := hxk.size
  repeat (first | refine jC ?_ | refine jN ?_ | refine jS ?_ | refine jR ?_ | refine jT ?_ | refine jB ?_ | refine jX rfl ?_ | refine jY rfl ?_ | refine jK ?_ | refine jD ?_ | refine jE ?_)
  refine Ix.mk i rfl hi ?_
  repeat (first | refine jC ?_ | refine jN ?_ | refine jS ?_ | refine jR ?_ | refine jT ?_ | refine jB ?_ | refine jX rfl ?_ | refine jY rfl ?_ | refine jK ?_ | refine jD ?_ | refine jE ?_)
  refine Ld.mk ((hcn.ext hxk).out 5 _ rfl) ?_
  repeat (first | refine jC ?_ | refine jN ?_ | refine jS ?_ | refine jR ?_ | refine jT ?_ | refine jB ?_ | refine jX rfl ?_ | refine jY rfl ?_ | refine jK ?_ | refine jD ?_ | refine jE ?_)
  refine Br.intro (fun h => ?_) (fun h => ?_)
  · have hlt : k < n.names.length := by have := of_decide_eq_true h; omega
    repeat (first | refine jC ?_ | refine jN ?_ | refine jS ?_ | refine jR ?_ | refine jT ?_ | refine jB ?_ | refine jX rfl ?_ | refine jY rfl ?_ | refine jK ?_ | refine jD ?_ | refine jE ?_)
    refine Br.intro (fun h6 => ?_) (fun h6 => ?_)
    · obtain ⟨f', rfl⟩ : ∃ f', f = f' + 1 := ⟨f - 1, by have := of_decide_eq_true h6; omega⟩
      have hlt2 : k < n.kids.length := by omega
      have hu1 : n.names[k]? = some n.names[k] := List.getElem?_eq_getElem hlt
      have hu2 : n.kids[k]? = some n.kids[k] := List.getElem?_eq_getElem hlt2
      have hsw := hnwf.2.2.2.2.1 _ (List.getElem_mem hlt)
      have hkd := hOk.kids i n hu _ (List.getElem_mem hlt2)
      generalize n.names[k] = y at hu1 hsw
      generalize n.kids[k] = q at hu2 hkd
      obtain ⟨c, rfl⟩ := Int.eq_ofNat_of_zero_le (show 0 ≤ q by omega)
      obtain ⟨nb2, no2, rfl, hnb, hnc⟩ := hna (by omega)
      obtain ⟨kb, ko, rfl, hkb, hkc⟩ := hka (by omega)
      have hbs := belowF_succ (ts := ts) (f := f' + 1) (ps := ps) hu1 hu2
      rw [Int.toNat_natCast] at hbs
      have hk1 := hbel (k + 1)
      rw [hbs, List.length_append] at hk1
      obtain ⟨adk, capk, rfl, _⟩ := id hB
      repeat (first | refine jC ?_ | refine jN ?_ | refine jS ?_ | refine jR ?_ | refine jT ?_ | refine jB ?_ | refine jX rfl ?_ | refine jY rfl ?_ | refine jK ?_ | refine jD ?_ | refine jE ?_)
      refine WpC.drawD (Vc.Ext w) (fun w' hw => hxk.trans hw) (.st 0 (.st 1 (.st 2 (.st 3 (.st 4 (.st 5 (.st 6 (.st 7 (.st 8 (.st 9 (.st 11 (.st 13 (.st 14 (.st 15 (.st 16 (.st 17 (.st 18 (.st 19 (.st 20 (.ef 10 (.ef 12 (.ef 21 (.ef 22 (.ef 23 (.ef 24 (.st 25 .done) .done) .done) .done) .done) (.ef 21 (.ef 12 (.ef 22 (.ef 23 (.ef 24 (.st 25 .done) .done) .done) .done) .done) .done)) (.ef 21 (.ef 10 (.ef 12 (.ef 22 (.ef 23 (.ef 24 (.st 25 .done) .done) .done) .done) .done) .done) .done))))))))))))))))))))) [(0, .mv), (1, .mv), (2, .mv), (3, .mv), (7, .mv), (10, .ef), (11, .mv), (12, .ef), (13, .mv), (14, .mv), (18, .mv), (21, .ef), (22, .ef), (23, .ef), (24, .ef), (25, .mv)] (by kernel_rfl) ?_
      repeat (first | refine uM ?_ | refine uR ?_ | refine uE ?_ | refine uB ?_ | refine uA ?_ | refine uD ?_ | refine jC ?_ | refine jN ?_ | refine jS ?_ | refine jR ?_ | refine jT ?_ | refine jB ?_ | refine jX rfl ?_ | refine jY rfl ?_ | refine jK ?_ | refine jD ?_ | refine jE ?_)
      refine Ix.mk i rfl hi ?_
      repeat (first | refine uM ?_ | refine uR ?_ | refine uE ?_ | refine uB ?_ | refine uA ?_ | refine uD ?_ | refine jC ?_ | refine jN ?_ | refine jS ?_ | refine jR ?_ | refine jT ?_ | refine jB ?_ | refine jX rfl ?_ | refine jY rfl ?_ | refine jK ?_ | refine jD ?_ | refine jE ?_)
      refine Ld.mk (hcn.out 6 _ rfl) ?_
      repeat (first | refine uM ?_ | refine uR ?_ | refine uE ?_ | refine uB ?_ | refine uA ?_ | refine uD ?_ | refine jC ?_ | refine jN ?_ | refine jS ?_ | refine jR ?_ | refine jT ?_ | refine jB ?_ | refine jX rfl ?_ | refine jY rfl ?_ | refine jK ?_ | refine jD ?_ | refine jE ?_)
      refine Ix.mk k rfl hlt2 ?_
      repeat (first | refine uM ?_ | refine uR ?_ | refine uE ?_ | refine uB ?_ | refine uA ?_ | refine uD ?_ | refine jC ?_ | refine jN ?_ | refine jS ?_ | refine jR ?_ | refine jT ?_ | refine jB ?_ | refine jX rfl ?_ | refine jY rfl ?_ | refine jK ?_ | refine jD ?_ | refine jE ?_)
      refine Ld.mk (hkc.out k _ (by rw [List.getElem?_map, hu2]; rfl)) ?_
      repeat (first | refine uM ?_ | refine uR ?_ | refine uE ?_ | refine uB ?_ | refine uA ?_ | refine uD ?_ | refine jC ?_ | refine jN ?_ | refine jS ?_ | refine jR ?_ | refine jT ?_ | refine jB ?_ | refine jX rfl ?_ | refine jY rfl ?_ | refine jK ?_ | refine jD ?_ | refine jE ?_)
      refine Ix.mk i rfl hi ?_
      repeat (first | refine uM ?_ | refine uR ?_ | refine uE ?_ | refine uB ?_ | refine uA ?_ | refine uD ?_ | refine jC ?_ | refine jN ?_ | refine jS ?_ | refine jR ?_ | refine jT ?_ | refine jB ?_ | refine jX rfl ?_ | refine jY rfl ?_ | refine jK ?_ | refine jD ?_ | refine jE ?_)
      refine Ld.mk (hcn.out 5 _ rfl) ?_
      repeat (first | refine uM ?_ | refine uR ?_ | refine uE ?_ | refine uB ?_ | refine uA ?_ | refine uD ?_ | refine jC ?_ | refine jN ?_ | refine jS ?_ | refine jR ?_ | refine jT ?_ | refine jB ?_ | refine jX rfl ?_ | refine jY rfl ?_ | refine jK ?_ | refine jD ?_ | refine jE ?_)
      refine Ix.mk k rfl hlt ?_
      repeat (first | refine uM ?_ | refine uR ?_ | refine uE ?_ | refine uB ?_ | refine uA ?_ | refine uD ?_ | refine jC ?_ | refine jN ?_ | refine jS ?_ | refine jR ?_ | refine jT ?_ | refine jB ?_ | refine jX rfl ?_ | refine jY rfl ?_ | refine jK ?_ | refine jD ?_ | refine jE ?_)
      refine Ld.mk (hnc.out k _ (strs_get hu1)) ?_
      repeat (first | refine uM ?_ | refine uR ?_ | refine uE ?_ | refine uB ?_ | refine uA ?_ | refine uD ?_ | refine jC ?_ | refine jN ?_ | refine jS ?_ | refine jR ?_ | refine jT ?_ | refine jB ?_ | refine jX rfl ?_ | refine jY rfl ?_ | refine jK ?_ | refine jD ?_ | refine jE ?_)
      refine WpE.ef2 (by exact rfl) (by exact rfl) ?_ ?_
      · refine Made.mk fun g0 wa hxa h01 h02 h03 _ => ?_
        refine ⟨Keep.mk fun w' hw => (hxk.trans hxa).trans hw, ?_⟩
        repeat (first | refine uM ?_ | refine uR ?_ | refine uE ?_ | refine uB ?_ | refine uA ?_ | refine uD ?_ | refine jC ?_ | refine jN ?_ | refine jS ?_ | refine jR ?_ | refine jT ?_ | refine jB ?_ | refine jX rfl ?_ | refine jY rfl ?_ | refine jK ?_ | refine jD ?_ | refine jE ?_)
        refine WpE.ef2 (by exact rfl) (by exact rfl) ?_ ?_
        · refine AppV.copyS (lo := wk.heap.size) ((hP.ext hxk).ext hxa) (by simp [Value.oneCell']) (by omega) rfl hxa.size (fun v1 wb gc hBc hxb _ => ?_)
          refine ⟨Keep.mk fun w' hw => (hxk.trans (hxa.trans hxb)).trans hw, ?_⟩
          repeat (first | refine uM ?_ | refine uR ?_ | refine uE ?_ | refine uB ?_ | refine uA ?_ | refine uD ?_ | refine jC ?_ | refine jN ?_ | refine jS ?_ | refine jR ?_ | refine jT ?_ | refine jB ?_ | refine jX rfl ?_ | refine jY rfl ?_ | refine jK ?_ | refine jD ?_ | refine jE ?_)
          refine Made.mk fun gl wq hq hgl1 hgl2 hgl3 _ => ?_
          have hB1 := hBc.ext hq hq.size
          have hKQ := (hxa.trans hxb).trans hq
          refine ⟨Keep.mk fun w' hw => (hxk.trans hKQ).trans hw, ?_⟩
          obtain ⟨adc, capc, rfl, _⟩ := id hB1
          repeat (first | refine uM ?_ | refine uR ?_ | refine uE ?_ | refine uB ?_ | refine uA ?_ | refine uD ?_ | refine jC ?_ | refine jN ?_ | refine jS ?_ | refine jR ?_ | refine jT ?_ | refine jB ?_ | refine jX rfl ?_ | refine jY rfl ?_ | refine jK ?_ | refine jD ?_ | refine jE ?_)
          have hzq := hKQ.size
          refine AppV.bufS hB1 (by omega) (news := [.string y]) (CellsAt.of_block hgl3 (fun i v hi => by simpa using hi)) rfl (by simp [Value.oneCell']) (fun _ => trivial) (by omega) (by omega) rfl hzq (Nat.le_refl _) (fun v2 A2 g2 hB2 hc2 hw2 => ?_)
          have hxA2 : Vc.Ext wk A2 := app_ext (fun hc => by have := (hB1.blk (v := .slice adc ps.length capc) hc).1; omega) hKQ hw2
          refine ⟨Keep.mk fun w' hw => (hxk.trans hxA2).trans hw, ?_⟩
          repeat (first | refine uM ?_ | refine uR ?_ | refine uE ?_ | refine uB ?_ | refine uA ?_ | refine uD ?_ | refine jC ?_ | refine jN ?_ | refine jS ?_ | refine jR ?_ | refine jT ?_ | refine jB ?_ | refine jX rfl ?_ | refine jY rfl ?_ | refine jK ?_ | refine jD ?_ | refine jE ?_)
          have eps : strs ps ++ [(.string y : Value)] = strs (ps ++ [y]) := by simp
          rw [eps] at hB2
          have hR2 := hB2.row1
          refine CallV.mem _ (fun w' hw _ => hrec f' rfl (ps ++ [y]) c v2 w' (by simp; omega) (by omega) (hT.ext ((hxk.trans hxA2).trans hw)) (hR2.ext hw) (fun s hs => ?_) (by omega)) (fun v3 w3 w4 hx3 hx4 _ ⟨g3, hB3⟩ => ?_)
          · rcases List.mem_append.1 hs with h | h
            · exact hps s h
            · rw [List.mem_singleton.1 h]; exact hsw
          have hx34 := (hxA2.trans hx3).trans hx4
          refine ⟨Keep.mk fun w' hw => (hxk.trans hx34).trans hw, ?_⟩
          have hBk := hB.ext hx34 hx34.size
          have hpos : 1 ≤ (pathsF ts (f' + 1) c (ps ++ [y])).length := pathsF_pos
          obtain ⟨ad3, cap3, rfl, h31, _, _, _, hat3⟩ := id hB3
          obtain ⟨rfl, _, _, _, hc3⟩ := hat3 (by omega)
          repeat (first | refine uM ?_ | refine uR ?_ | refine uE ?_ | refine uB ?_ | refine uA ?_ | refine uD ?_ | refine jC ?_ | refine jN ?_ | refine jS ?_ | refine jR ?_ | refine jT ?_ | refine jB ?_ | refine jX rfl ?_ | refine jY rfl ?_ | refine jK ?_ | refine jD ?_ | refine jE ?_)
          have hz4 := (hxk.trans hx34).size
          refine AppV.bufS hBk (by omega) (news := strs (pathsF ts (f' + 1) c (ps ++ [y]))) hc3 (by simp) (by simp [Value.oneCell']) (fun _ => trivial) (by simp only [List.length_cons]; omega) (by simp only [List.length_cons]; omega) rfl hz4 (Nat.le_refl _) (fun v5 A5 g5 hB5 hc5 hw5 => ?_)
          have hx5 : Vc.Ext w A5 := app_ext (fun hc => (hBk.blk (v := .slice adk _ capk) hc).1) (hxk.trans hx34) hw5
          refine ⟨Keep.mk fun w' hw => hx5.trans hw, ?_⟩
          repeat (first | refine uM ?_ | refine uR ?_ | refine uE ?_ | refine uB ?_ | refine uA ?_ | refine uD ?_ | refine jC ?_ | refine jN ?_ | refine jS ?_ | refine jR ?_ | refine jT ?_ | refine jB ?_ | refine jX rfl ?_ | refine jY rfl ?_ | refine jK ?_ | refine jD ?_ | refine jE ?_)
          refine ⟨I64.mk (by omega), ?_⟩
          repeat (first | refine jC ?_ | refine jN ?_ | refine jS ?_ | refine jR ?_ | refine jT ?_ | refine jB ?_ | refine jX rfl ?_ | refine jY rfl ?_ | refine jK ?_ | refine jD ?_ | refine jE ?_)
          have eall2 : strs (joinB ps :: belowF ts (f' + 1) n ps k) ++ strs (pathsF ts (f' + 1) c (ps ++ [y])) = strs (joinB ps :: belowF ts (f' + 1) n ps (k + 1)) := by rw [hbs]; simp
          have elen : (joinB ps :: belowF ts (f' + 1) n ps k).length + (pathsF ts (f' + 1) c (ps ++ [y])).length = (joinB ps :: belowF ts (f' + 1) n ps (k + 1)).length := by rw [hbs]; simp; omega
          rw [eall2, elen] at hB5
          exact ⟨(k + 1, v5, g5, A5), ⟨hlt, hx5, hB5⟩, by show n.names.length - (k + 1) < n.names.length - k; omega, ⟨rfl, rfl, rfl, rfl, rfl, trivial⟩, trivial, trivial, Vc.Ext.refl _⟩
        · repeat (first | refine uM ?_ | refine uR ?_ | refine uE ?_ | refine uB ?_ | refine uA ?_ | refine uD ?_ | refine jC ?_ | refine jN ?_ | refine jS ?_ | refine jR ?_ | refine jT ?_ | refine jB ?_ | refine jX rfl ?_ | refine jY rfl ?_ | refine jK ?_ | refine jD ?_ | refine jE ?_)
          refine Made.mk fun gl wb hxb hgl1 hgl2 hgl3' _ => ?_
          refine ⟨Keep.mk fun w' hw => (hxk.trans (hxa.trans hxb)).trans hw, ?_⟩
          repeat (first | refine uM ?_ | refine uR ?_ | refine uE ?_ | refine uB ?_ | refine uA ?_ | refine uD ?_ | refine jC ?_ | refine jN ?_ | refine jS ?_ | refine jR ?_ | refine jT ?_ | refine jB ?_ | refine jX rfl ?_ | refine jY rfl ?_ | refine jK ?_ | refine jD ?_ | refine jE ?_)
          refine AppV.copyS (lo := wk.heap.size) ((hP.ext hxk).ext (hxa.trans hxb)) (by simp [Value.oneCell']) (by omega) rfl (hxa.trans hxb).size (fun v1 wq gc hB1 hq _ => ?_)
          have hKQ := (hxa.trans hxb).trans hq
          have hgl3 := (hq.block gl hgl2).trans hgl3'
          refine ⟨Keep.mk fun w' hw => (hxk.trans hKQ).trans hw, ?_⟩
          obtain ⟨adc, capc, rfl, _⟩ := id hB1
          repeat (first | refine uM ?_ | refine uR ?_ | refine uE ?_ | refine uB ?_ | refine uA ?_ | refine uD ?_ | refine jC ?_ | refine jN ?_ | refine jS ?_ | refine jR ?_ | refine jT ?_ | refine jB ?_ | refine jX rfl ?_ | refine jY rfl ?_ | refine jK ?_ | refine jD ?_ | refine jE ?_)
          have hzq := hKQ.size
          refine AppV.bufS hB1 (by omega) (news := [.string y]) (CellsAt.of_block hgl3 (fun i v hi => by simpa using hi)) rfl (by simp [Value.oneCell']) (fun _ => trivial) (by omega) (by omega) rfl hzq (Nat.le_refl _) (fun v2 A2 g2 hB2 hc2 hw2 => ?_)
          have hxA2 : Vc.Ext wk A2 := app_ext (fun hc => by have := (hB1.blk (v := .slice adc ps.length capc) hc).1; omega) hKQ hw2
          refine ⟨Keep.mk fun w' hw => (hxk.trans hxA2).trans hw, ?_⟩
          repeat (first | refine uM ?_ | refine uR ?_ | refine uE ?_ | refine uB ?_ | refine uA ?_ | refine uD ?_ | refine jC ?_ | refine jN ?_ | refine jS ?_ | refine jR ?_ | refine jT ?_ | refine jB ?_ | refine jX rfl ?_ | refine jY rfl ?_ | refine jK ?_ | refine jD ?_ | refine jE ?_)
          have eps : strs ps ++ [(.string y : Value)] = strs (ps ++ [y]) := by simp
          rw [eps] at hB2
          have hR2 := hB2.row1
          refine CallV.mem _ (fun w' hw _ => hrec f' rfl (ps ++ [y]) c v2 w' (by simp; omega) (by omega) (hT.ext ((hxk.trans hxA2).trans hw)) (hR2.ext hw) (fun s hs => ?_) (by omega)) (fun v3 w3 w4 hx3 hx4 _ ⟨g3, hB3⟩ => ?_)
          · rcases List.mem_append.1 hs with h | h
            · exact hps s h
            · rw [List.mem_singleton.1 h]; exact hsw
          have hx34 := (hxA2.trans hx3).trans hx4
          refine ⟨Keep.mk fun w' hw => (hxk.trans hx34).trans hw, ?_⟩
          have hBk := hB.ext hx34 hx34.size
          have hpos : 1 ≤ (pathsF ts (f' + 1) c (ps ++ [y])).length := pathsF_pos
          obtain ⟨ad3, cap3, rfl, h31, _, _, _, hat3⟩ := id hB3
          obtain ⟨rfl, _, _, _, hc3⟩ := hat3 (by omega)
          repeat (first | refine uM ?_ | refine uR ?_ | refine uE ?_ | refine uB ?_ | refine uA ?_ | refine uD ?_ | refine jC ?_ | refine jN ?_ | refine jS ?_ | refine jR ?_ | refine jT ?_ | refine jB ?_ | refine jX rfl ?_ | refine jY rfl ?_ | refine jK ?_ | refine jD ?_ | refine jE ?_)
          have hz4 := (hxk.trans hx34).size
          refine AppV.bufS hBk (by omega) (news := strs (pathsF ts (f' + 1) c (ps ++ [y]))) hc3 (by simp) (by simp [Value.oneCell']) (fun _ => trivial) (by simp only [List.length_cons]; omega) (by simp only [List.length_cons]; omega) rfl hz4 (Nat.le_refl _) (fun v5 A5 g5 hB5 hc5 hw5 => ?_)
          have hx5 : Vc.Ext w A5 := app_ext (fun hc => (hBk.blk (v := .slice adk _ capk) hc).1) (hxk.trans hx34) hw5
          refine ⟨Keep.mk fun w' hw => hx5.trans hw, ?_⟩
          repeat (first | refine uM ?_ | refine uR ?_ | refine uE ?_ | refine uB ?_ | refine uA ?_ | refine uD ?_ | refine jC ?_ | refine jN ?_ | refine jS ?_ | refine jR ?_ | refine jT ?_ | refine jB ?_ | refine jX rfl ?_ | refine jY rfl ?_ | refine jK ?_ | refine jD ?_ | refine jE ?_)
          refine ⟨I64.mk (by omega), ?_⟩
          repeat (first | refine jC ?_ | refine jN ?_ | refine jS ?_ | refine jR ?_ | refine jT ?_ | refine jB ?_ | refine jX rfl ?_ | refine jY rfl ?_ | refine jK ?_ | refine jD ?_ | refine jE ?_)
          have eall2 : strs (joinB ps :: belowF ts (f' + 1) n ps k) ++ strs (pathsF ts (f' + 1) c (ps ++ [y])) = strs (joinB ps :: belowF ts (f' + 1) n ps (k + 1)) := by rw [hbs]; simp
          have elen : (joinB ps :: belowF ts (f' + 1) n ps k).length + (pathsF ts (f' + 1) c (ps ++ [y])).length = (joinB ps :: belowF ts (f' + 1) n ps (k + 1)).length := by rw [hbs]; simp; omega
          rw [eall2, elen] at hB5
          exact ⟨(k + 1, v5, g5, A5), ⟨hlt, hx5, hB5⟩, by show n.names.length - (k + 1) < n.names.length - k; omega, ⟨rfl, rfl, rfl, rfl, rfl, trivial⟩, trivial, trivial, Vc.Ext.refl _⟩
      · repeat (first | refine uM ?_ | refine uR ?_ | refine uE ?_ | refine uB ?_ | refine uA ?_ | refine uD ?_ | refine jC ?_ | refine jN ?_ | refine jS ?_ | refine jR ?_ | refine jT ?_ | refine jB ?_ | refine jX rfl ?_ | refine jY rfl ?_ | refine jK ?_ | refine jD ?_ | refine jE ?_)
        refine Made.mk fun gl wa hxa hgl1 hgl2 hgl3' _ => ?_
        refine ⟨Keep.mk fun w' hw => (hxk.trans hxa).trans hw, ?_⟩
        repeat (first | refine uM ?_ | refine uR ?_ | refine uE ?_ | refine uB ?_ | refine uA ?_ | refine uD ?_ | refine jC ?_ | refine jN ?_ | refine jS ?_ | refine jR ?_ | refine jT ?_ | refine jB ?_ | refine jX rfl ?_ | refine jY rfl ?_ | refine jK ?_ | refine jD ?_ | refine jE ?_)
        refine Made.mk fun g0 wb hxb h01 h02 h03 _ => ?_
        refine ⟨Keep.mk fun w' hw => (hxk.trans (hxa.trans hxb)).trans hw, ?_⟩
        repeat (first | refine uM ?_ | refine uR ?_ | refine uE ?_ | refine uB ?_ | refine uA ?_ | refine uD ?_ | refine jC ?_ | refine jN ?_ | refine jS ?_ | refine jR ?_ | refine jT ?_ | refine jB ?_ | refine jX rfl ?_ | refine jY rfl ?_ | refine jK ?_ | refine jD ?_ | refine jE ?_)
        refine AppV.copyS (lo := wk.heap.size) ((hP.ext hxk).ext (hxa.trans hxb)) (by simp [Value.oneCell']) (by omega) rfl (hxa.trans hxb).size (fun v1 wq gc hB1 hq _ => ?_)
        have hKQ := (hxa.trans hxb).trans hq
        have hgl3 := ((hxb.trans hq).block gl hgl2).trans hgl3'
        refine ⟨Keep.mk fun w' hw => (hxk.trans hKQ).trans hw, ?_⟩
        obtain ⟨adc, capc, rfl, _⟩ := id hB1
        repeat (first | refine uM ?_ | refine uR ?_ | refine uE ?_ | refine uB ?_ | refine uA ?_ | refine uD ?_ | refine jC ?_ | refine jN ?_ | refine jS ?_ | refine jR ?_ | refine jT ?_ | refine jB ?_ | refine jX rfl ?_ | refine jY rfl ?_ | refine jK ?_ | refine jD ?_ | refine jE ?_)
        have hzq := hKQ.size
        refine AppV.bufS hB1 (by omega) (news := [.string y]) (CellsAt.of_block hgl3 (fun i v hi => by simpa using hi)) rfl (by simp [Value.oneCell']) (fun _ => trivial) (by omega) (by omega) rfl hzq (Nat.le_refl _) (fun v2 A2 g2 hB2 hc2 hw2 => ?_)
        have hxA2 : Vc.Ext wk A2 := app_ext (fun hc => by have := (hB1.blk (v := .slice adc ps.length capc) hc).1; omega) hKQ hw2
        refine ⟨Keep.mk fun w' hw => (hxk.trans hxA2).trans hw, ?_⟩
        repeat (first | refine uM ?_ | refine uR ?_ | refine uE ?_ | refine uB ?_ | refine uA ?_ | refine uD ?_ | refine jC ?_ | refine jN ?_ | refine jS ?_ | refine jR ?_ | refine jT ?_ | refine jB ?_ | refine jX rfl ?_ | refine jY rfl ?_ | refine jK ?_ | refine jD ?_ | refine jE ?_)
        have eps : strs ps ++ [(.string y : Value)] = strs (ps ++ [y]) := by simp
        rw [eps] at hB2
        have hR2 := hB2.row1
        refine CallV.mem _ (fun w' hw _ => hrec f' rfl (ps ++ [y]) c v2 w' (by simp; omega) (by omega) (hT.ext ((hxk.trans hxA2).trans hw)) (hR2.ext hw) (fun s hs => ?_) (by omega)) (fun v3 w3 w4 hx3 hx4 _ ⟨g3, hB3⟩ => ?_)
        · rcases List.mem_append.1 hs with h | h
          · exact hps s h
          · rw [List.mem_singleton.1 h]; exact hsw
        have hx34 := (hxA2.trans hx3).trans hx4
        refine ⟨Keep.mk fun w' hw => (hxk.trans hx34).trans hw, ?_⟩
        have hBk := hB.ext hx34 hx34.size
        have hpos : 1 ≤ (pathsF ts (f' + 1) c (ps ++ [y])).length := pathsF_pos
        obtain ⟨ad3, cap3, rfl, h31, _, _, _, hat3⟩ := id hB3
        obtain ⟨rfl, _, _, _, hc3⟩ := hat3 (by omega)
        repeat (first | refine uM ?_ | refine uR ?_ | refine uE ?_ | refine uB ?_ | refine uA ?_ | refine uD ?_ | refine jC ?_ | refine jN ?_ | refine jS ?_ | refine jR ?_ | refine jT ?_ | refine jB ?_ | refine jX rfl ?_ | refine jY rfl ?_ | refine jK ?_ | refine jD ?_ | refine jE ?_)
        have hz4 := (hxk.trans hx34).size
        refine AppV.bufS hBk (by omega) (news := strs (pathsF ts (f' + 1) c (ps ++ [y]))) hc3 (by simp) (by simp [Value.oneCell']) (fun _ => trivial) (by simp only [List.length_cons]; omega) (by simp only [List.length_cons]; omega) rfl hz4 (Nat.le_refl _) (fun v5 A5 g5 hB5 hc5 hw5 => ?_)
        have hx5 : Vc.Ext w A5 := app_ext (fun hc => (hBk.blk (v := .slice adk _ capk) hc).1) (hxk.trans hx34) hw5
        refine ⟨Keep.mk fun w' hw => hx5.trans hw, ?_⟩
        repeat (first | refine uM ?_ | refine uR ?_ | refine uE ?_ | refine uB ?_ | refine uA ?_ | refine uD ?_ | refine jC ?_ | refine jN ?_ | refine jS ?_ | refine jR ?_ | refine jT ?_ | refine jB ?_ | refine jX rfl ?_ | refine jY rfl ?_ | refine jK ?_ | refine jD ?_ | refine jE ?_)
        refine ⟨I64.mk (by omega), ?_⟩
        repeat (first | refine jC ?_ | refine jN ?_ | refine jS ?_ | refine jR ?_ | refine jT ?_ | refine jB ?_ | refine jX rfl ?_ | refine jY rfl ?_ | refine jK ?_ | refine jD ?_ | refine jE ?_)
        have eall2 : strs (joinB ps :: belowF ts (f' + 1) n ps k) ++ strs (pathsF ts (f' + 1) c (ps ++ [y])) = strs (joinB ps :: belowF ts (f' + 1) n ps (k + 1)) := by rw [hbs]; simp
        have elen : (joinB ps :: belowF ts (f' + 1) n ps k).length + (pathsF ts (f' + 1) c (ps ++ [y])).length = (joinB ps :: belowF ts (f' + 1) n ps (k + 1)).length := by rw [hbs]; simp; omega
        rw [eall2, elen] at hB5
        exact ⟨(k + 1, v5, g5, A5), ⟨hlt, hx5, hB5⟩, by show n.names.length - (k + 1) < n.names.length - k; omega, ⟨rfl, rfl, rfl, rfl, rfl, trivial⟩, trivial, trivial, Vc.Ext.refl _⟩
    · have : f = 0 := by have := of_decide_eq_false h6; omega
      subst this
      have e : belowF ts 0 n ps k = belowF ts 0 n ps n.names.length := by simp only [belowF, pathsF, List.flatMap_eq_nil_iff.2 (fun _ _ => rfl)]
      simp only [e, hall] at hB ⊢
      repeat (first | refine jC ?_ | refine jN ?_ | refine jS ?_ | refine jR ?_ | refine jT ?_ | refine jB ?_ | refine jX rfl ?_ | refine jY rfl ?_ | refine jK ?_ | refine jD ?_ | refine jE ?_)
      exact EndV.mk fun w' hw' => ⟨_, rfl, ⟨gk, hB.ext hw' hw'.size⟩, hxk.trans hw'⟩
  · have hke : k = n.names.length := by have := of_decide_eq_false h; omega
    subst hke
    simp only [hall] at hB ⊢
    repeat (first | refine jC ?_ | refine jN ?_ | refine jS ?_ | refine jR ?_ | refine jT ?_ | refine jB ?_ | refine jX rfl ?_ | refine jY rfl ?_ | refine jK ?_ | refine jD ?_ | refine jE ?_)
    exact EndV.mk fun w' hw' => ⟨_, rfl, ⟨gk, hB.ext hw' hw'.size⟩, hxk.trans hw'⟩
theorem sPaths_vc (ts : List Nd) (hs : Sized ts) (hwf : ∀ n ∈ ts, n.wf) (hOk : TreeOk ts) (v : Value) : ∀ (f : Nat) (ps : List ByteArray) (i : Nat) (vp : Value) (w : World), ps.length + f = 6 → i < ts.length → Tree w v ts → Row1 w vp (strs ps) → (∀ s ∈ ps, s.size ≤ 9223372036854775807) → (pathsF ts (f + 1) i ps).length ≤ 8000000000000 →
      Calls Try.prog 55 #[v, .int .i64 (i : Int), vp] w fun e w' => ∃ v', e = .returned v' ∧ (∃ g, BufS w.heap.size w'.heap.size w' v' (pathsF ts (f + 1) i ps).length 1 (strs (pathsF ts (f + 1) i ps)) g) ∧ Vc.Ext w w' := by
  intro f
  induction f with
  | zero => exact sPaths_step ts hs hwf hOk v 0 fun f' e => absurd e (by omega)
  | succ f ih => exact sPaths_step ts hs hwf hOk v (f + 1) fun f' e => by cases e; exact ih
theorem sPathsOf_vc (ts : List Nd) (v : Value) (w : World) (hT : Tree w v ts) (hs : Sized ts) (hwf : ∀ n ∈ ts, n.wf) :
    Calls Try.prog 34 #[v] w fun e w' => ∃ v', e = .returned v' ∧ (∃ g, BufS w.heap.size w'.heap.size w' v' (pathsOfF ts).length 1 (strs (pathsOfF ts)) g) ∧ Vc.Ext w w' := by
  have hlen := pathsOfF_len (ts := ts) fun n hn => (hs.2 n hn).1
  refine calls_of cx_ok Try.func34 Try.ntmps34 Try.results34 rfl rfl ?_
  repeat (first | refine jC ?_ | refine jN ?_ | refine jS ?_ | refine jR ?_ | refine jT ?_ | refine jB ?_ | refine jX rfl ?_ | refine jY rfl ?_ | refine jK ?_ | refine jD ?_ | refine jE ?_)
  refine CallV.val (fun w' hw _ => sTreeValid_vc ts v w' (hT.ext hw) hs hwf) ?_
  repeat (first | refine jC ?_ | refine jN ?_ | refine jS ?_ | refine jR ?_ | refine jT ?_ | refine jB ?_ | refine jX rfl ?_ | refine jY rfl ?_ | refine jK ?_ | refine jD ?_ | refine jE ?_)
  refine Br.intro (fun h => ?_) (fun h => ?_)
  · have e : pathsOfF ts = [] := by rw [pathsOfF, if_neg (by simpa using h)]
    rw [e]
    repeat (first | refine jC ?_ | refine jN ?_ | refine jS ?_ | refine jR ?_ | refine jT ?_ | refine jB ?_ | refine jX rfl ?_ | refine jY rfl ?_ | refine jK ?_ | refine jD ?_ | refine jE ?_)
    refine Made.mk fun g1 w1 hx1 hg11 hg12 hg13 _ => ?_
    repeat (first | refine jC ?_ | refine jN ?_ | refine jS ?_ | refine jR ?_ | refine jT ?_ | refine jB ?_ | refine jX rfl ?_ | refine jY rfl ?_ | refine jK ?_ | refine jD ?_ | refine jE ?_)
    exact EndV.mk fun w' hw' => ⟨_, rfl, ⟨0, BufS.zero _ _ _ _ _ _ _⟩, hx1.trans hw'⟩
  · have hb : treeB ts = true := by simpa using h
    have e : pathsOfF ts = pathsF ts 7 0 [] := by rw [pathsOfF, if_pos hb]
    rw [e] at hlen ⊢
    have hOk := treeB_iff.1 hb
    have hlo := hOk.lo
    repeat (first | refine jC ?_ | refine jN ?_ | refine jS ?_ | refine jR ?_ | refine jT ?_ | refine jB ?_ | refine jX rfl ?_ | refine jY rfl ?_ | refine jK ?_ | refine jD ?_ | refine jE ?_)
    refine Made.mk fun g1 w1 hx1 hg11 hg12 hg13 _ => ?_
    repeat (first | refine jC ?_ | refine jN ?_ | refine jS ?_ | refine jR ?_ | refine jT ?_ | refine jB ?_ | refine jX rfl ?_ | refine jY rfl ?_ | refine jK ?_ | refine jD ?_ | refine jE ?_)
    refine CallV.mem _ (fun w' hw _ => sPaths_vc ts hs hwf hOk v 6 [] 0 _ w' rfl (by omega) (hT.ext (hx1.trans hw)) (BufS.zero 0 0 w' g1 0 1 0).row1 (by simp) (Nat.le_trans hlen (by omega))) (fun v3 w3 w4 hx3 hx4 _ ⟨g3, hB3⟩ => ?_)
    repeat (first | refine jC ?_ | refine jN ?_ | refine jS ?_ | refine jR ?_ | refine jT ?_ | refine jB ?_ | refine jX rfl ?_ | refine jY rfl ?_ | refine jK ?_ | refine jD ?_ | refine jE ?_)
    have hx := (hx1.trans hx3).trans hx4
    exact EndV.mk fun w' hw' => ⟨_, rfl, ⟨g3, (hB3.ext hw' hw'.size).low (by have := (hx1.trans hx3).size; omega)⟩, hx.trans hw'⟩
end Go.Proofs.Ytlnlpholhnbifaa
