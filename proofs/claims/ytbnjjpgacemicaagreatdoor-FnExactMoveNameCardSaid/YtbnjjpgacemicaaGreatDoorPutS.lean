/-
  Contracts: the reference's l8Put.
  Conditions: bounds.
-/
import Derived.Test.YtbnjjpgacemicaaGreatDoorAddN
namespace Go.Proofs.YtbnjjpgacemicaaGreatDoor
open Go.RowKit Vc
set_option linter.unusedVariables false
set_option maxHeartbeats 2000000
attribute [local irreducible] WpC WpL WpD WpE WpB CallV QCallV Made AppV Ld LdN Ix EndV I64 MutN Mut CellsAt

theorem Row1.takeV {w : World} {ad : Option Addr} {n cap k : Nat} {xs : List Value} (h : Row1 w (.slice ad n cap) xs) (hk : k ≤ n) : Row1 w (.slice ad k cap) (xs.take k) := by
  obtain ⟨_, _, e, h1, h2, h3⟩ := h
  cases e
  have hl : (xs.take k).length = k := by rw [List.length_take]; omega
  refine ⟨_, _, by rw [hl], by omega, h2, fun h0 => ?_⟩
  obtain ⟨b, o, e, hc⟩ := h3 (by omega)
  exact ⟨b, o, e, CellsAt.left (m := xs.drop k) (by rw [List.take_append_drop]; exact hc)⟩
theorem Row1.dropV {w : World} {ad : Option Addr} {n cap k : Nat} {xs : List Value} (h : Row1 w (.slice ad n cap) xs) (hk : k ≤ n) : Row1 w (.slice (if cap = k then ad else ad.map (·.add (k * 1))) (n - k) (cap - k)) (xs.drop k) := by
  obtain ⟨_, _, e, h1, h2, h3⟩ := h
  cases e
  have hl : (xs.drop k).length = xs.length - k := List.length_drop
  refine ⟨_, _, by rw [hl], by omega, by omega, fun h0 => ?_⟩
  obtain ⟨b, o, e, hc⟩ := h3 (by omega)
  rw [if_neg (by omega), e]
  refine ⟨b, o + k, ?_, ?_⟩
  · simp only [Option.map_some, Nat.mul_one, Addr.add]
    split
    · rename_i h; rw [h]; rfl
    · rfl
  · have := CellsAt.right (l := xs.take k) (m := xs.drop k) (by rw [List.take_append_drop]; exact hc)
    rwa [List.length_take, Nat.min_eq_left hk] at this
/-- append of a slice, maybe an empty one, to a buffer with room of its own. -/
theorem AppV.bufR {H : List OE} {A : World} {e : TypeId} {bytes : Nat} {z : Value} {ad a2 : Option Addr} {n cap m c2 lo hi g : Nat} {xs news : List Value} {K : Value → World → Prop}
    (hb : BufS lo hi A (.slice ad n cap) n 1 xs g) (hcap : 0 < cap) (hR : Row1 A (.slice a2 m c2) news) (h1 : ∀ c, c ∈ news → c.oneCell' = true) (hne : OwnNe H g)
    (hbytes : (n + m) * bytes ≤ 140737488355328) (hmax : n + m ≤ 9223372036854775807) (hz : z.cells.size = 1) (hlo : lo ≤ A.heap.size) (hhi : hi ≤ A.heap.size)
    (k : ∀ v' A' g', BufS lo A'.heap.size A' v' (n + m) 1 (xs ++ news) g' → 0 < capV v' → ((g' = g ∧ A' = setL A g (n * 1) news) ∨ (A.heap.size ≤ g' ∧ Ext A A')) → K v' A') :
    AppV H A e 1 bytes z ad n cap a2 m K := by
  obtain ⟨_, _, e1, hle, hcm, hat⟩ := hR
  cases e1
  rcases Nat.eq_zero_or_pos news.length with h0 | h0
  · have hx : news = [] := List.eq_nil_of_length_eq_zero h0
    subst hx
    obtain ⟨_, _, e2, hle', hcm', hxl, hpl, hat'⟩ := id hb
    cases e2
    obtain ⟨e3, h3, h4, h5, h6⟩ := hat' hcap
    unfold AppV
    refine ⟨[], rfl, fun c hc => (by cases hc), fun p _ h => absurd h (by simp), fun _ => rfl, fun _ => ⟨fun p hp => ?_, ?_⟩, fun h => absurd h (by simp only [List.length_nil]; omega)⟩
    · rw [e3] at hp; cases hp; exact ⟨g, 0, rfl, MutN.mk fun i hi => absurd hi (by simp), hne⟩
    · subst e3
      have := k (.slice (some ⟨g, 0, none⟩) (n + 0) cap) A g (by rw [List.append_nil]; exact ⟨_, _, rfl, hle', hcm', hxl, hpl, fun h => by obtain ⟨a, b, c, d, e⟩ := hat' h; exact ⟨a, b, by omega, d, e⟩⟩) hcap (.inl ⟨rfl, rfl⟩)
      exact this
  · obtain ⟨b, o, rfl, hc⟩ := hat h0
    exact AppV.bufS hb h0 hc (by simp) h1 (fun _ => hne) hbytes hmax hz hlo hhi fun v' A' g' hB hc' hw => k v' A' g' hB hc' (hw.imp (fun ⟨a, _, b⟩ => ⟨a, b⟩) id)
theorem posN_drop {l : List ByteArray} {x y : ByteArray} : ∀ {k : Nat}, l[k]? = some y → posN (l.drop k) x = if Op.bytesLess y.toList x.toList then posN (l.drop (k + 1)) x + 1 else 0 := by
  intro k h
  have hlt := (List.getElem?_eq_some_iff.1 h).1
  rw [List.drop_eq_getElem_cons hlt, posN_cons]
  have e := (List.getElem?_eq_some_iff.1 h).2
  rw [e]
theorem strs_one (l : List ByteArray) : ∀ c, c ∈ strs l → c.oneCell' = true := by simp [Value.oneCell']
theorem ints_one (l : List Int) : ∀ c, c ∈ ints l → c.oneCell' = true := by simp [Value.oneCell']
theorem sPut_vc (n : Nd) (nv kv : Value) (x : ByteArray) (kid : Int) (w : World) (hN : NdIn w n nv kv) (hkn : n.names.length = n.kids.length) (hl : n.names.length ≤ 8388608) :
    Calls Tryz.prog 47 #[n.val nv kv, .string x, .int .i64 kid] w fun e w' => ∃ v, e = .returned v ∧ (∃ v1 v2 g1 g2, v = (n.put x kid).val v1 v2 ∧ BufS w.heap.size w'.heap.size w' v1 (n.put x kid).names.length 1 (strs (n.put x kid).names) g1 ∧ BufS w.heap.size w'.heap.size w' v2 (n.put x kid).kids.length 1 (ints (n.put x kid).kids) g2 ∧ g1 ≠ g2) ∧ Vc.Ext w w' := by
  obtain ⟨kad, kcap, rfl, hka⟩ := kids_open hN
  obtain ⟨nad, ncap, rfl, hna⟩ := names_open hN
  refine calls_of cx_ok Tryz.func47 Tryz.ntmps47 Tryz.results47 rfl rfl ?_
  repeat (first | refine jC ?_ | refine jN ?_ | refine jS ?_ | refine jR ?_ | refine jT ?_ | refine jB ?_ | refine jX rfl ?_ | refine jY rfl ?_ | refine jK ?_ | refine jD ?_ | refine jE ?_)
  intro b3 hb3
  repeat (first | refine jC ?_ | refine jN ?_ | refine jS ?_ | refine jR ?_ | refine jT ?_ | refine jB ?_ | refine jX rfl ?_ | refine jY rfl ?_ | refine jK ?_ | refine jD ?_ | refine jE ?_)
  intro b6 hb6
  repeat (first | refine jC ?_ | refine jN ?_ | refine jS ?_ | refine jR ?_ | refine jT ?_ | refine jB ?_ | refine jX rfl ?_ | refine jY rfl ?_ | refine jK ?_ | refine jD ?_ | refine jE ?_)
  refine WpC.loop (α := Nat) (fun k => ⟨[(1, .v (.string x)), (2, .v (.int .i64 kid)), (3, .own 0 0), (6, .own 1 0), (7, .v (.int .i64 (k : Int)))], [⟨b3, n.cells (.slice nad n.names.length ncap) (.slice kad n.kids.length kcap), 52⟩, ⟨b6, [.bool false, .int .i64 0, .int .i64 0, .int .i64 0, .string ⟨#[]⟩, .slice none 0 0, .slice none 0 0], 52⟩], w⟩)
    (fun k => k ≤ n.names.length ∧ posN (n.names.drop k) x + k = posN n.names x) (fun k => n.names.length - k) 0 ⟨Nat.zero_le _, rfl⟩ ⟨⟨rfl, rfl, rfl, rfl, rfl, trivial⟩, ⟨rfl, rfl, trivial⟩, ⟨rfl, rfl, trivial⟩, Vc.Ext.refl _⟩ ?_
  rintro k ⟨hkl, hg⟩
  obtain ⟨hn1, hn2⟩ : n.names.length ≤ ncap ∧ n.kids.length ≤ kcap := by
    obtain ⟨⟨_, _, e, h1, _⟩, ⟨_, _, e', h1', _⟩⟩ := id hN
    injection e with _ _ e3
    injection e' with _ _ e3'
    rw [e3, e3']
    simpa using And.intro h1 h1'
  repeat (first | refine jC ?_ | refine jN ?_ | refine jS ?_ | refine jR ?_ | refine jT ?_ | refine jB ?_ | refine jX rfl ?_ | refine jY rfl ?_ | refine jK ?_ | refine jD ?_ | refine jE ?_)
  refine Br.intro (fun h => ?_) (fun h => ?_)
  · have hlt : k < n.names.length := by have := of_decide_eq_true h; omega
    have hu : n.names[k]? = some n.names[k] := List.getElem?_eq_getElem hlt
    generalize n.names[k] = y at hu
    obtain ⟨nb, no, rfl, _, hnc⟩ := hna (by omega)
    repeat (first | refine jC ?_ | refine jN ?_ | refine jS ?_ | refine jR ?_ | refine jT ?_ | refine jB ?_ | refine jX rfl ?_ | refine jY rfl ?_ | refine jK ?_ | refine jD ?_ | refine jE ?_)
    refine Ix.mk k rfl hlt ?_
    repeat (first | refine jC ?_ | refine jN ?_ | refine jS ?_ | refine jR ?_ | refine jT ?_ | refine jB ?_ | refine jX rfl ?_ | refine jY rfl ?_ | refine jK ?_ | refine jD ?_ | refine jE ?_)
    refine Ld.mk (hnc.out k _ (strs_get hu)) ?_
    repeat (first | refine jC ?_ | refine jN ?_ | refine jS ?_ | refine jR ?_ | refine jT ?_ | refine jB ?_ | refine jX rfl ?_ | refine jY rfl ?_ | refine jK ?_ | refine jD ?_ | refine jE ?_)
    refine Br.intro (fun h2 => ?_) (fun h2 => ?_)
    · rw [posN_drop hu, if_pos h2] at hg
      repeat (first | refine jC ?_ | refine jN ?_ | refine jS ?_ | refine jR ?_ | refine jT ?_ | refine jB ?_ | refine jX rfl ?_ | refine jY rfl ?_ | refine jK ?_ | refine jD ?_ | refine jE ?_)
      refine ⟨I64.mk (by omega), ?_⟩
      repeat (first | refine jC ?_ | refine jN ?_ | refine jS ?_ | refine jR ?_ | refine jT ?_ | refine jB ?_ | refine jX rfl ?_ | refine jY rfl ?_ | refine jK ?_ | refine jD ?_ | refine jE ?_)
      exact ⟨k + 1, ⟨hlt, by omega⟩, by show n.names.length - (k + 1) < n.names.length - k; omega, ⟨rfl, rfl, rfl, rfl, rfl, trivial⟩, ⟨rfl, rfl, trivial⟩, ⟨rfl, rfl, trivial⟩, Vc.Ext.refl _⟩
    · rw [posN_drop hu, if_neg (by simp [h2]), Nat.zero_add] at hg
      repeat (first | refine jC ?_ | refine jN ?_ | refine jS ?_ | refine jR ?_ | refine jT ?_ | refine jB ?_ | refine jX rfl ?_ | refine jY rfl ?_ | refine jK ?_ | refine jD ?_ | refine jE ?_)
      generalize (some ⟨nb, no, none⟩ : Option Addr) = nad at hN ⊢
      intro b8 hb8
      repeat (first | refine jC ?_ | refine jN ?_ | refine jS ?_ | refine jR ?_ | refine jT ?_ | refine jB ?_ | refine jX rfl ?_ | refine jY rfl ?_ | refine jK ?_ | refine jD ?_ | refine jE ?_)
      refine ⟨by assumption, rfl, by simp, by simp [Value.oneCell'], ?_⟩
      repeat (first | refine jC ?_ | refine jN ?_)
      refine WpC.plain (fun wr hxr hO => ?_)
      have hq3 := hO.1 0 _ rfl
      have hq6 := hO.1 1 _ rfl
      have hq8 := hO.1 2 _ rfl
      have h38 : b3 ≠ b8 := fun e => absurd (hO.2 0 2 _ _ rfl rfl e) (by decide)
      have h68 : b6 ≠ b8 := fun e => absurd (hO.2 1 2 _ _ rfl rfl e) (by decide)
      have hc3 : CellsAt wr b3 0 (n.cells (.slice nad n.names.length ncap) (.slice kad n.kids.length kcap)) := CellsAt.of_block hq3 fun i v hi => by simpa using hi
      have hc8 : CellsAt wr b8 0 (n.cells (.slice nad n.names.length ncap) (.slice kad n.kids.length kcap)) := CellsAt.of_block hq8 fun i v hi => by simpa using hi
      have hm8 : MutN wr b8 0 7 := MutN.of_block hq8 (by simp)
      have hm6 : MutN wr b6 0 7 := MutN.of_block hq6 (by simp)
      have hl3 : b3 < wr.heap.size := hc3.lt (by simp)
      have hl8 : b8 < wr.heap.size := hc8.lt (by simp)
      have hl6 : b6 < wr.heap.size := (CellsAt.of_block (o := 0) (m := [.bool false]) hq6 fun i v hi => by cases i <;> simp at hi ⊢; exact hi).lt (by simp)
      repeat (first | refine jC ?_ | refine jN ?_ | refine jS ?_ | refine jR ?_ | refine jT ?_ | refine jB ?_ | refine jX rfl ?_ | refine jY rfl ?_ | refine jK ?_ | refine jD ?_ | refine jE ?_)
      have hxr0 := hxr
      refine WpC.drawE (.st 1 (.st 2 (.st 3 (.st 4 (.st 6 (.st 9 (.st 10 (.st 11 (.st 12 (.ef 0 (.ef 5 (.ef 7 (.ef 8 (.ef 13 (.st 14 (.ef 15 .done .done)) .done) .done) .done) (.ef 7 (.ef 5 (.ef 8 (.ef 13 (.st 14 (.ef 15 .done .done)) .done) .done) .done) .done)) (.ef 7 (.ef 0 (.ef 5 (.ef 8 (.ef 13 (.st 14 (.ef 15 .done .done)) .done) .done) .done) .done) .done))))))))))) [(0, .ef), (3, .mv), (5, .ef), (6, .mv), (7, .ef), (8, .ef), (11, .mv), (13, .ef), (15, .br)] (by kernel_rfl) ?_
      repeat (first | refine uM ?_ | refine uR ?_ | refine uE ?_ | refine uB ?_ | refine uA ?_ | refine uD ?_ | refine jC ?_ | refine jN ?_ | refine jS ?_ | refine jR ?_ | refine jT ?_ | refine jB ?_ | refine jX rfl ?_ | refine jY rfl ?_ | refine jK ?_ | refine jD ?_ | refine jE ?_)
      refine Ld.mk (hc3.out 5 _ rfl) ?_
      repeat (first | refine uM ?_ | refine uR ?_ | refine uE ?_ | refine uB ?_ | refine uA ?_ | refine uD ?_ | refine jC ?_ | refine jN ?_ | refine jS ?_ | refine jR ?_ | refine jT ?_ | refine jB ?_ | refine jX rfl ?_ | refine jY rfl ?_ | refine jK ?_ | refine jD ?_ | refine jE ?_)
      refine ⟨k, rfl, by omega, ?_⟩
      repeat (first | refine uM ?_ | refine uR ?_ | refine uE ?_ | refine uB ?_ | refine uA ?_ | refine uD ?_ | refine jC ?_ | refine jN ?_ | refine jS ?_ | refine jR ?_ | refine jT ?_ | refine jB ?_ | refine jX rfl ?_ | refine jY rfl ?_ | refine jK ?_ | refine jD ?_ | refine jE ?_)
      refine Ld.mk (hc3.out 5 _ rfl) ?_
      repeat (first | refine uM ?_ | refine uR ?_ | refine uE ?_ | refine uB ?_ | refine uA ?_ | refine uD ?_ | refine jC ?_ | refine jN ?_ | refine jS ?_ | refine jR ?_ | refine jT ?_ | refine jB ?_ | refine jX rfl ?_ | refine jY rfl ?_ | refine jK ?_ | refine jD ?_ | refine jE ?_)
      refine ⟨k, rfl, by omega, by omega, ?_⟩
      repeat (first | refine uM ?_ | refine uR ?_ | refine uE ?_ | refine uB ?_ | refine uA ?_ | refine uD ?_ | refine jC ?_ | refine jN ?_ | refine jS ?_ | refine jR ?_ | refine jT ?_ | refine jB ?_ | refine jX rfl ?_ | refine jY rfl ?_ | refine jK ?_ | refine jD ?_ | refine jE ?_)
      have hRs := Vc.Ext.refl wr
      refine WpE.ef2 (by exact rfl) (by exact rfl) ?_ ?_
      · skip
        refine Made.mk fun g0s wq hq _ _ _ _ => ?_
        have hRs := hRs.trans hq
        refine ⟨Keep.ext hRs, ?_⟩
        repeat (first | refine uM ?_ | refine uR ?_ | refine uE ?_ | refine uB ?_ | refine uA ?_ | refine uD ?_ | refine jC ?_ | refine jN ?_ | refine jS ?_ | refine jR ?_ | refine jT ?_ | refine jB ?_ | refine jX rfl ?_ | refine jY rfl ?_ | refine jK ?_ | refine jD ?_ | refine jE ?_)
        refine WpE.ef2 (by exact rfl) (by exact rfl) ?_ ?_
        · skip
          refine AppV.copyH (lo := wr.heap.size) (xs := (strs n.names).take k) trivial ((Row1.takeV (k := k) (xs := strs n.names) hN.1 (by omega)).ext (hxr.trans hRs)) (fun c hc => (strs_one n.names) c (List.mem_of_mem_take hc)) (by omega) rfl hRs.size (fun v1s wq g1s hB1s hq hg1 => ?_)
          obtain ⟨ad1s, cap1s, rfl, _⟩ := id hB1s
          have hRs := hRs.trans hq
          refine ⟨Keep.ext hRs, ?_⟩
          repeat (first | refine uM ?_ | refine uR ?_ | refine uE ?_ | refine uB ?_ | refine uA ?_ | refine uD ?_ | refine jC ?_ | refine jN ?_ | refine jS ?_ | refine jR ?_ | refine jT ?_ | refine jB ?_ | refine jX rfl ?_ | refine jY rfl ?_ | refine jK ?_ | refine jD ?_ | refine jE ?_)
          refine Made.mk fun gls wq hq _ _ hlc _ => ?_
          have hRs := hRs.trans hq
          have hsrcs : CellsAt wq gls 0 [(.string x : Value)] := CellsAt.of_block hlc (fun i v hi => by simpa using hi)
          have hB1s := hB1s.ext hq hq.size
          refine ⟨Keep.ext hRs, ?_⟩
          repeat (first | refine uM ?_ | refine uR ?_ | refine uE ?_ | refine uB ?_ | refine uA ?_ | refine uD ?_ | refine jC ?_ | refine jN ?_ | refine jS ?_ | refine jR ?_ | refine jT ?_ | refine jB ?_ | refine jX rfl ?_ | refine jY rfl ?_ | refine jK ?_ | refine jD ?_ | refine jE ?_)
          refine AppV.bufS hB1s (by omega) hsrcs rfl (by simp [Value.oneCell']) (fun _ => trivial) (by omega) (by omega) rfl hRs.size (Nat.le_refl _) (fun v2s wq g2s hB2s hc2s hw2s => ?_)
          obtain ⟨ad2s, cap2s, rfl, _⟩ := id hB2s
          have hR2s : Vc.Ext wr wq := by
            rcases hw2s with ⟨e, e0, rfl⟩ | ⟨_, hq⟩
            · exact hRs.trans' (below_setL (Below.refl _ _) (hB1s.blk e0).1 _ _)
            · exact hRs.trans hq
          have hgB2s := (hB2s.blk hc2s).1
          refine ⟨Keep.ext hR2s, ?_⟩
          repeat (first | refine uM ?_ | refine uR ?_ | refine uE ?_ | refine uB ?_ | refine uA ?_ | refine uD ?_ | refine jC ?_ | refine jN ?_ | refine jS ?_ | refine jR ?_ | refine jT ?_ | refine jB ?_ | refine jX rfl ?_ | refine jY rfl ?_ | refine jK ?_ | refine jD ?_ | refine jE ?_)
          refine AppV.bufR (news := (strs n.names).drop k) hB2s hc2s ((Row1.dropV (k := k) (xs := strs n.names) hN.1 (by omega)).ext (hxr.trans hR2s)) (fun c hc => (strs_one n.names) c (List.mem_of_mem_drop hc)) trivial (by omega) (by omega) rfl hR2s.size (Nat.le_refl _) (fun v3s wfs g3s hB3s hc3' hw3s => ?_)
          obtain ⟨ad3s, cap3s, rfl, _⟩ := id hB3s
          have hR3s : Vc.Ext wr wfs := by
            rcases hw3s with ⟨e, rfl⟩ | ⟨_, hq⟩
            · exact hR2s.trans' (below_setL (Below.refl _ _) hgB2s _ _)
            · exact hR2s.trans hq
          have hB4s : BufS wr.heap.size wfs.heap.size wfs (.slice ad3s (k + 1 + (n.names.length - k)) cap3s) (k + 1 + (n.names.length - k)) 1 (strs (n.names.take k ++ x :: n.names.drop k)) g3s := by
            have e : strs (n.names.take k ++ x :: n.names.drop k) = (strs n.names).take k ++ [(.string x : Value)] ++ (strs n.names).drop k := by simp [List.map_append, List.map_take, List.map_drop]
            rw [e]; exact hB3s
          have hgBs := hB3s.blk hc3'
          refine ⟨Keep.ext hR3s, ?_⟩
          repeat (first | refine uM ?_ | refine uR ?_ | refine uE ?_ | refine uB ?_ | refine uA ?_ | refine uD ?_ | refine jC ?_ | refine jN ?_ | refine jS ?_ | refine jR ?_ | refine jT ?_ | refine jB ?_ | refine jX rfl ?_ | refine jY rfl ?_ | refine jK ?_ | refine jD ?_ | refine jE ?_)
          have hm8fs := hm8.ext hR3s
          refine ⟨by have := hm8fs.sub (k := 5) (m := 1) (by omega); rwa [Nat.zero_add] at this, trivial, rfl, by simp [Value.oneCell'], ?_⟩
          repeat (first | refine uM ?_ | refine uR ?_ | refine uE ?_ | refine uB ?_ | refine uA ?_ | refine uD ?_ | refine jC ?_ | refine jN ?_ | refine jS ?_ | refine jR ?_ | refine jT ?_ | refine jB ?_ | refine jX rfl ?_ | refine jY rfl ?_ | refine jK ?_ | refine jD ?_ | refine jE ?_)
          have hXs : ExcP (fun j => j = b8) wfs (setL wfs b8 (0 + 5) [Value.slice ad3s (k + 1 + (n.names.length - k)) cap3s]) := (ExcP.refl (fun j => j = b8) wfs).setL (S := fun j => j = b8) rfl _ _
          have hm8s : MutN (setL wfs b8 (0 + 5) [Value.slice ad3s (k + 1 + (n.names.length - k)) cap3s]) b8 0 7 := MutN.setL _ _ _ hm8fs
          have hc8s := ((hc8.ext hR3s).setAt (x := Value.slice ad3s (k + 1 + (n.names.length - k)) cap3s) (hm8fs.sub (k := 5) (m := 1) (by omega)) (by simp))
          have hsr := hR3s.size
          have hc3s := (hc3.ext hR3s).exc (by omega) hXs (fun e => h38 e)
          have hm6s := (hm6.ext hR3s).exc (by omega) hXs (fun e => h68 e)
          have hxs : Vc.Ext w (setL wfs b8 (0 + 5) [Value.slice ad3s (k + 1 + (n.names.length - k)) cap3s]) := (hxr.trans hR3s).trans' (hXs.below (by have := hxr.size; omega) fun j hj e => by omega)
          have hBs := hB4s.exc (hi' := (setL wfs b8 (0 + 5) [Value.slice ad3s (k + 1 + (n.names.length - k)) cap3s]).heap.size) hXs (fun _ e => by omega) (Nat.le_refl _) (by rw [setL_size]; exact Nat.le_refl _)
          have hwl : wfs.heap.size ≤ (setL wfs b8 (0 + 5) [Value.slice ad3s (k + 1 + (n.names.length - k)) cap3s]).heap.size := by rw [setL_size]; exact Nat.le_refl _
          generalize (setL wfs b8 (0 + 5) [Value.slice ad3s (k + 1 + (n.names.length - k)) cap3s]) = ws at hm8s hc8s hc3s hm6s hxs hBs hwl hXs ⊢
          have hxr0 := hxs
          refine WpC.drawE (.st 1 (.st 2 (.st 3 (.st 4 (.st 6 (.st 9 (.st 10 (.st 11 (.st 12 (.ef 0 (.ef 5 (.ef 7 (.ef 8 (.ef 13 (.st 14 (.ef 15 .done .done)) .done) .done) .done) (.ef 7 (.ef 5 (.ef 8 (.ef 13 (.st 14 (.ef 15 .done .done)) .done) .done) .done) .done)) (.ef 7 (.ef 0 (.ef 5 (.ef 8 (.ef 13 (.st 14 (.ef 15 .done .done)) .done) .done) .done) .done) .done))))))))))) [(0, .ef), (3, .mv), (5, .ef), (6, .mv), (7, .ef), (8, .ef), (11, .mv), (13, .ef), (15, .br)] (by kernel_rfl) ?_
          repeat (first | refine uM ?_ | refine uR ?_ | refine uE ?_ | refine uB ?_ | refine uA ?_ | refine uD ?_ | refine jC ?_ | refine jN ?_ | refine jS ?_ | refine jR ?_ | refine jT ?_ | refine jB ?_ | refine jX rfl ?_ | refine jY rfl ?_ | refine jK ?_ | refine jD ?_ | refine jE ?_)
          refine Ld.mk (hc3s.out 6 _ rfl) ?_
          repeat (first | refine uM ?_ | refine uR ?_ | refine uE ?_ | refine uB ?_ | refine uA ?_ | refine uD ?_ | refine jC ?_ | refine jN ?_ | refine jS ?_ | refine jR ?_ | refine jT ?_ | refine jB ?_ | refine jX rfl ?_ | refine jY rfl ?_ | refine jK ?_ | refine jD ?_ | refine jE ?_)
          refine ⟨k, rfl, by omega, ?_⟩
          repeat (first | refine uM ?_ | refine uR ?_ | refine uE ?_ | refine uB ?_ | refine uA ?_ | refine uD ?_ | refine jC ?_ | refine jN ?_ | refine jS ?_ | refine jR ?_ | refine jT ?_ | refine jB ?_ | refine jX rfl ?_ | refine jY rfl ?_ | refine jK ?_ | refine jD ?_ | refine jE ?_)
          refine Ld.mk (hc3s.out 6 _ rfl) ?_
          repeat (first | refine uM ?_ | refine uR ?_ | refine uE ?_ | refine uB ?_ | refine uA ?_ | refine uD ?_ | refine jC ?_ | refine jN ?_ | refine jS ?_ | refine jR ?_ | refine jT ?_ | refine jB ?_ | refine jX rfl ?_ | refine jY rfl ?_ | refine jK ?_ | refine jD ?_ | refine jE ?_)
          refine ⟨k, rfl, by omega, by omega, ?_⟩
          repeat (first | refine uM ?_ | refine uR ?_ | refine uE ?_ | refine uB ?_ | refine uA ?_ | refine uD ?_ | refine jC ?_ | refine jN ?_ | refine jS ?_ | refine jR ?_ | refine jT ?_ | refine jB ?_ | refine jX rfl ?_ | refine jY rfl ?_ | refine jK ?_ | refine jD ?_ | refine jE ?_)
          have hRi := Vc.Ext.refl ws
          refine WpE.ef2 (by exact rfl) (by exact rfl) ?_ ?_
          · skip
            refine Made.mk fun g0i wq hq _ _ _ _ => ?_
            have hRi := hRi.trans hq
            refine ⟨Keep.ext hRi, ?_⟩
            repeat (first | refine uM ?_ | refine uR ?_ | refine uE ?_ | refine uB ?_ | refine uA ?_ | refine uD ?_ | refine jC ?_ | refine jN ?_ | refine jS ?_ | refine jR ?_ | refine jT ?_ | refine jB ?_ | refine jX rfl ?_ | refine jY rfl ?_ | refine jK ?_ | refine jD ?_ | refine jE ?_)
            refine WpE.ef2 (by exact rfl) (by exact rfl) ?_ ?_
            · skip
              refine AppV.copyH (lo := ws.heap.size) (xs := (ints n.kids).take k) trivial ((Row1.takeV (k := k) (xs := ints n.kids) hN.2 (by omega)).ext (hxs.trans hRi)) (fun c hc => (ints_one n.kids) c (List.mem_of_mem_take hc)) (by omega) rfl hRi.size (fun v1i wq g1i hB1i hq hg1 => ?_)
              obtain ⟨ad1i, cap1i, rfl, _⟩ := id hB1i
              have hRi := hRi.trans hq
              refine ⟨Keep.ext hRi, ?_⟩
              repeat (first | refine uM ?_ | refine uR ?_ | refine uE ?_ | refine uB ?_ | refine uA ?_ | refine uD ?_ | refine jC ?_ | refine jN ?_ | refine jS ?_ | refine jR ?_ | refine jT ?_ | refine jB ?_ | refine jX rfl ?_ | refine jY rfl ?_ | refine jK ?_ | refine jD ?_ | refine jE ?_)
              refine Made.mk fun gli wq hq _ _ hlc _ => ?_
              have hRi := hRi.trans hq
              have hsrci : CellsAt wq gli 0 [(.int .i64 kid : Value)] := CellsAt.of_block hlc (fun i v hi => by simpa using hi)
              have hB1i := hB1i.ext hq hq.size
              refine ⟨Keep.ext hRi, ?_⟩
              repeat (first | refine uM ?_ | refine uR ?_ | refine uE ?_ | refine uB ?_ | refine uA ?_ | refine uD ?_ | refine jC ?_ | refine jN ?_ | refine jS ?_ | refine jR ?_ | refine jT ?_ | refine jB ?_ | refine jX rfl ?_ | refine jY rfl ?_ | refine jK ?_ | refine jD ?_ | refine jE ?_)
              refine AppV.bufS hB1i (by omega) hsrci rfl (by simp [Value.oneCell']) (fun _ => trivial) (by omega) (by omega) rfl hRi.size (Nat.le_refl _) (fun v2i wq g2i hB2i hc2i hw2i => ?_)
              obtain ⟨ad2i, cap2i, rfl, _⟩ := id hB2i
              have hR2i : Vc.Ext ws wq := by
                rcases hw2i with ⟨e, e0, rfl⟩ | ⟨_, hq⟩
                · exact hRi.trans' (below_setL (Below.refl _ _) (hB1i.blk e0).1 _ _)
                · exact hRi.trans hq
              have hgB2i := (hB2i.blk hc2i).1
              refine ⟨Keep.ext hR2i, ?_⟩
              repeat (first | refine uM ?_ | refine uR ?_ | refine uE ?_ | refine uB ?_ | refine uA ?_ | refine uD ?_ | refine jC ?_ | refine jN ?_ | refine jS ?_ | refine jR ?_ | refine jT ?_ | refine jB ?_ | refine jX rfl ?_ | refine jY rfl ?_ | refine jK ?_ | refine jD ?_ | refine jE ?_)
              refine AppV.bufR (news := (ints n.kids).drop k) hB2i hc2i ((Row1.dropV (k := k) (xs := ints n.kids) hN.2 (by omega)).ext (hxs.trans hR2i)) (fun c hc => (ints_one n.kids) c (List.mem_of_mem_drop hc)) trivial (by omega) (by omega) rfl hR2i.size (Nat.le_refl _) (fun v3i wfi g3i hB3i hc3s' hw3i => ?_)
              obtain ⟨ad3i, cap3i, rfl, _⟩ := id hB3i
              have hR3i : Vc.Ext ws wfi := by
                rcases hw3i with ⟨e, rfl⟩ | ⟨_, hq⟩
                · exact hR2i.trans' (below_setL (Below.refl _ _) hgB2i _ _)
                · exact hR2i.trans hq
              have hB4i : BufS ws.heap.size wfi.heap.size wfi (.slice ad3i (k + 1 + (n.kids.length - k)) cap3i) (k + 1 + (n.kids.length - k)) 1 (ints (n.kids.take k ++ kid :: n.kids.drop k)) g3i := by
                have e : ints (n.kids.take k ++ kid :: n.kids.drop k) = (ints n.kids).take k ++ [(.int .i64 kid : Value)] ++ (ints n.kids).drop k := by simp [List.map_append, List.map_take, List.map_drop]
                rw [e]; exact hB3i
              have hgBi := hB3i.blk hc3s'
              refine ⟨Keep.ext hR3i, ?_⟩
              repeat (first | refine uM ?_ | refine uR ?_ | refine uE ?_ | refine uB ?_ | refine uA ?_ | refine uD ?_ | refine jC ?_ | refine jN ?_ | refine jS ?_ | refine jR ?_ | refine jT ?_ | refine jB ?_ | refine jX rfl ?_ | refine jY rfl ?_ | refine jK ?_ | refine jD ?_ | refine jE ?_)
              have hm8fi := hm8s.ext hR3i
              refine ⟨by have := hm8fi.sub (k := 6) (m := 1) (by omega); rwa [Nat.zero_add] at this, trivial, rfl, by simp [Value.oneCell'], ?_⟩
              repeat (first | refine uM ?_ | refine uR ?_ | refine uE ?_ | refine uB ?_ | refine uA ?_ | refine uD ?_ | refine jC ?_ | refine jN ?_ | refine jS ?_ | refine jR ?_ | refine jT ?_ | refine jB ?_ | refine jX rfl ?_ | refine jY rfl ?_ | refine jK ?_ | refine jD ?_ | refine jE ?_)
              have hXi : ExcP (fun j => j = b8) wfi (setL wfi b8 (0 + 6) [Value.slice ad3i (k + 1 + (n.kids.length - k)) cap3i]) := (ExcP.refl (fun j => j = b8) wfi).setL (S := fun j => j = b8) rfl _ _
              have hsi := hR3i.size
              have hc8i := ((hc8s.ext hR3i).setAt (x := Value.slice ad3i (k + 1 + (n.kids.length - k)) cap3i) (hm8fi.sub (k := 6) (m := 1) (by omega)) (by simp))
              have hm6i := (hm6s.ext hR3i).exc (by omega) hXi (fun e => h68 e)
              have hxi : Vc.Ext w (setL wfi b8 (0 + 6) [Value.slice ad3i (k + 1 + (n.kids.length - k)) cap3i]) := (hxs.trans hR3i).trans' (hXi.below (by have := hxr.size; omega) fun j hj e => by omega)
              have hBn := ((hBs.ext (hi' := wfi.heap.size) hR3i hsi).exc (hi' := (setL wfi b8 (0 + 6) [Value.slice ad3i (k + 1 + (n.kids.length - k)) cap3i]).heap.size) hXi (fun _ e => by omega) (Nat.le_refl _) (by rw [setL_size]; exact Nat.le_refl _))
              have hBi := hB4i.exc (hi' := (setL wfi b8 (0 + 6) [Value.slice ad3i (k + 1 + (n.kids.length - k)) cap3i]).heap.size) hXi (fun _ e => by omega) (Nat.le_refl _) (by rw [setL_size]; exact Nat.le_refl _)
              have hwi : wfi.heap.size ≤ (setL wfi b8 (0 + 6) [Value.slice ad3i (k + 1 + (n.kids.length - k)) cap3i]).heap.size := by rw [setL_size]; exact Nat.le_refl _
              generalize (setL wfi b8 (0 + 6) [Value.slice ad3i (k + 1 + (n.kids.length - k)) cap3i]) = wt at hc8i hm6i hxi hBn hBi hwi hXi ⊢
              refine LdN.mk hc8i rfl ?_
              repeat (first | refine jC ?_ | refine jN ?_ | refine jS ?_ | refine jR ?_ | refine jT ?_ | refine jB ?_ | refine jX rfl ?_ | refine jY rfl ?_ | refine jK ?_ | refine jD ?_ | refine jE ?_)
              refine ⟨hm6i, trivial, rfl, by simp [Value.oneCell'], ?_⟩
              repeat (first | refine jC ?_ | refine jN ?_ | refine jS ?_ | refine jR ?_ | refine jT ?_ | refine jB ?_ | refine jX rfl ?_ | refine jY rfl ?_ | refine jK ?_ | refine jD ?_ | refine jE ?_)
              have hXt : ExcP (fun j => j = b6) wt (setL wt b6 0 _) := (ExcP.refl (fun j => j = b6) wt).setL (S := fun j => j = b6) rfl (n.cells (Value.slice ad3s (k + 1 + (n.names.length - k)) cap3s) (Value.slice ad3i (k + 1 + (n.kids.length - k)) cap3i)) 0
              refine LdN.mk (CellsAt.setL_in (l := n.cells (Value.slice ad3s (k + 1 + (n.names.length - k)) cap3s) (Value.slice ad3i (k + 1 + (n.kids.length - k)) cap3i)) hm6i) rfl ?_
              repeat (first | refine jC ?_ | refine jN ?_ | refine jS ?_ | refine jR ?_ | refine jT ?_ | refine jB ?_ | refine jX rfl ?_ | refine jY rfl ?_ | refine jK ?_ | refine jD ?_ | refine jE ?_)
              have hput : n.put x kid = { n with names := n.names.take k ++ x :: n.names.drop k, kids := n.kids.take k ++ kid :: n.kids.drop k } := by rw [hg]; rfl
              have hl1 : (n.put x kid).names.length = k + 1 + (n.names.length - k) := by
                rw [hput]; simp only [List.length_append, List.length_cons, List.length_take, List.length_drop]; omega
              have hl2 : (n.put x kid).kids.length = k + 1 + (n.kids.length - k) := by
                rw [hput]; simp only [List.length_append, List.length_cons, List.length_take, List.length_drop]; omega
              have hsx := hxr.size
              refine EndV.mk fun w' hw' => ⟨_, rfl, ⟨Value.slice ad3s (k + 1 + (n.names.length - k)) cap3s, Value.slice ad3i (k + 1 + (n.kids.length - k)) cap3i, g3s, g3i, rfl, ?_, ?_, by omega⟩, (hxi.trans' (hXt.below (by omega) fun j hj e => by omega)).trans hw'⟩
              · rw [hl1, hput]
                exact ((hBn.exc (hi' := (setL wt b6 0 (n.cells (Value.slice ad3s (k + 1 + (n.names.length - k)) cap3s) (Value.slice ad3i (k + 1 + (n.kids.length - k)) cap3i))).heap.size) hXt (fun _ e => by omega) (Nat.le_refl _) hXt.size).ext hw' hw'.size).low (by omega)
              · rw [hl2, hput]
                exact ((hBi.exc (hi' := (setL wt b6 0 (n.cells (Value.slice ad3s (k + 1 + (n.names.length - k)) cap3s) (Value.slice ad3i (k + 1 + (n.kids.length - k)) cap3i))).heap.size) hXt (fun _ e => by omega) (Nat.le_refl _) hXt.size).ext hw' hw'.size).low (by omega)
            · refine WpE.ef (by exact rfl) (by exact rfl) ?_
              refine Made.mk fun gli wq hq _ _ hlc _ => ?_
              have hRi := hRi.trans hq
              have hsrci : CellsAt wq gli 0 [(.int .i64 kid : Value)] := CellsAt.of_block hlc (fun i v hi => by simpa using hi)
              refine ⟨Keep.ext hRi, ?_⟩
              repeat (first | refine uM ?_ | refine uR ?_ | refine uE ?_ | refine uB ?_ | refine uA ?_ | refine uD ?_ | refine jC ?_ | refine jN ?_ | refine jS ?_ | refine jR ?_ | refine jT ?_ | refine jB ?_ | refine jX rfl ?_ | refine jY rfl ?_ | refine jK ?_ | refine jD ?_ | refine jE ?_)
              refine AppV.copyH (lo := ws.heap.size) (xs := (ints n.kids).take k) trivial ((Row1.takeV (k := k) (xs := ints n.kids) hN.2 (by omega)).ext (hxs.trans hRi)) (fun c hc => (ints_one n.kids) c (List.mem_of_mem_take hc)) (by omega) rfl hRi.size (fun v1i wq g1i hB1i hq hg1 => ?_)
              obtain ⟨ad1i, cap1i, rfl, _⟩ := id hB1i
              have hRi := hRi.trans hq
              have hsrci := hsrci.ext hq
              refine ⟨Keep.ext hRi, ?_⟩
              repeat (first | refine uM ?_ | refine uR ?_ | refine uE ?_ | refine uB ?_ | refine uA ?_ | refine uD ?_ | refine jC ?_ | refine jN ?_ | refine jS ?_ | refine jR ?_ | refine jT ?_ | refine jB ?_ | refine jX rfl ?_ | refine jY rfl ?_ | refine jK ?_ | refine jD ?_ | refine jE ?_)
              refine AppV.bufS hB1i (by omega) hsrci rfl (by simp [Value.oneCell']) (fun _ => trivial) (by omega) (by omega) rfl hRi.size (Nat.le_refl _) (fun v2i wq g2i hB2i hc2i hw2i => ?_)
              obtain ⟨ad2i, cap2i, rfl, _⟩ := id hB2i
              have hR2i : Vc.Ext ws wq := by
                rcases hw2i with ⟨e, e0, rfl⟩ | ⟨_, hq⟩
                · exact hRi.trans' (below_setL (Below.refl _ _) (hB1i.blk e0).1 _ _)
                · exact hRi.trans hq
              have hgB2i := (hB2i.blk hc2i).1
              refine ⟨Keep.ext hR2i, ?_⟩
              repeat (first | refine uM ?_ | refine uR ?_ | refine uE ?_ | refine uB ?_ | refine uA ?_ | refine uD ?_ | refine jC ?_ | refine jN ?_ | refine jS ?_ | refine jR ?_ | refine jT ?_ | refine jB ?_ | refine jX rfl ?_ | refine jY rfl ?_ | refine jK ?_ | refine jD ?_ | refine jE ?_)
              refine AppV.bufR (news := (ints n.kids).drop k) hB2i hc2i ((Row1.dropV (k := k) (xs := ints n.kids) hN.2 (by omega)).ext (hxs.trans hR2i)) (fun c hc => (ints_one n.kids) c (List.mem_of_mem_drop hc)) trivial (by omega) (by omega) rfl hR2i.size (Nat.le_refl _) (fun v3i wfi g3i hB3i hc3s' hw3i => ?_)
              obtain ⟨ad3i, cap3i, rfl, _⟩ := id hB3i
              have hR3i : Vc.Ext ws wfi := by
                rcases hw3i with ⟨e, rfl⟩ | ⟨_, hq⟩
                · exact hR2i.trans' (below_setL (Below.refl _ _) hgB2i _ _)
                · exact hR2i.trans hq
              have hB4i : BufS ws.heap.size wfi.heap.size wfi (.slice ad3i (k + 1 + (n.kids.length - k)) cap3i) (k + 1 + (n.kids.length - k)) 1 (ints (n.kids.take k ++ kid :: n.kids.drop k)) g3i := by
                have e : ints (n.kids.take k ++ kid :: n.kids.drop k) = (ints n.kids).take k ++ [(.int .i64 kid : Value)] ++ (ints n.kids).drop k := by simp [List.map_append, List.map_take, List.map_drop]
                rw [e]; exact hB3i
              have hgBi := hB3i.blk hc3s'
              refine ⟨Keep.ext hR3i, ?_⟩
              repeat (first | refine uM ?_ | refine uR ?_ | refine uE ?_ | refine uB ?_ | refine uA ?_ | refine uD ?_ | refine jC ?_ | refine jN ?_ | refine jS ?_ | refine jR ?_ | refine jT ?_ | refine jB ?_ | refine jX rfl ?_ | refine jY rfl ?_ | refine jK ?_ | refine jD ?_ | refine jE ?_)
              have hm8fi := hm8s.ext hR3i
              refine ⟨by have := hm8fi.sub (k := 6) (m := 1) (by omega); rwa [Nat.zero_add] at this, trivial, rfl, by simp [Value.oneCell'], ?_⟩
              repeat (first | refine uM ?_ | refine uR ?_ | refine uE ?_ | refine uB ?_ | refine uA ?_ | refine uD ?_ | refine jC ?_ | refine jN ?_ | refine jS ?_ | refine jR ?_ | refine jT ?_ | refine jB ?_ | refine jX rfl ?_ | refine jY rfl ?_ | refine jK ?_ | refine jD ?_ | refine jE ?_)
              have hXi : ExcP (fun j => j = b8) wfi (setL wfi b8 (0 + 6) [Value.slice ad3i (k + 1 + (n.kids.length - k)) cap3i]) := (ExcP.refl (fun j => j = b8) wfi).setL (S := fun j => j = b8) rfl _ _
              have hsi := hR3i.size
              have hc8i := ((hc8s.ext hR3i).setAt (x := Value.slice ad3i (k + 1 + (n.kids.length - k)) cap3i) (hm8fi.sub (k := 6) (m := 1) (by omega)) (by simp))
              have hm6i := (hm6s.ext hR3i).exc (by omega) hXi (fun e => h68 e)
              have hxi : Vc.Ext w (setL wfi b8 (0 + 6) [Value.slice ad3i (k + 1 + (n.kids.length - k)) cap3i]) := (hxs.trans hR3i).trans' (hXi.below (by have := hxr.size; omega) fun j hj e => by omega)
              have hBn := ((hBs.ext (hi' := wfi.heap.size) hR3i hsi).exc (hi' := (setL wfi b8 (0 + 6) [Value.slice ad3i (k + 1 + (n.kids.length - k)) cap3i]).heap.size) hXi (fun _ e => by omega) (Nat.le_refl _) (by rw [setL_size]; exact Nat.le_refl _))
              have hBi := hB4i.exc (hi' := (setL wfi b8 (0 + 6) [Value.slice ad3i (k + 1 + (n.kids.length - k)) cap3i]).heap.size) hXi (fun _ e => by omega) (Nat.le_refl _) (by rw [setL_size]; exact Nat.le_refl _)
              have hwi : wfi.heap.size ≤ (setL wfi b8 (0 + 6) [Value.slice ad3i (k + 1 + (n.kids.length - k)) cap3i]).heap.size := by rw [setL_size]; exact Nat.le_refl _
              generalize (setL wfi b8 (0 + 6) [Value.slice ad3i (k + 1 + (n.kids.length - k)) cap3i]) = wt at hc8i hm6i hxi hBn hBi hwi hXi ⊢
              refine LdN.mk hc8i rfl ?_
              repeat (first | refine jC ?_ | refine jN ?_ | refine jS ?_ | refine jR ?_ | refine jT ?_ | refine jB ?_ | refine jX rfl ?_ | refine jY rfl ?_ | refine jK ?_ | refine jD ?_ | refine jE ?_)
              refine ⟨hm6i, trivial, rfl, by simp [Value.oneCell'], ?_⟩
              repeat (first | refine jC ?_ | refine jN ?_ | refine jS ?_ | refine jR ?_ | refine jT ?_ | refine jB ?_ | refine jX rfl ?_ | refine jY rfl ?_ | refine jK ?_ | refine jD ?_ | refine jE ?_)
              have hXt : ExcP (fun j => j = b6) wt (setL wt b6 0 _) := (ExcP.refl (fun j => j = b6) wt).setL (S := fun j => j = b6) rfl (n.cells (Value.slice ad3s (k + 1 + (n.names.length - k)) cap3s) (Value.slice ad3i (k + 1 + (n.kids.length - k)) cap3i)) 0
              refine LdN.mk (CellsAt.setL_in (l := n.cells (Value.slice ad3s (k + 1 + (n.names.length - k)) cap3s) (Value.slice ad3i (k + 1 + (n.kids.length - k)) cap3i)) hm6i) rfl ?_
              repeat (first | refine jC ?_ | refine jN ?_ | refine jS ?_ | refine jR ?_ | refine jT ?_ | refine jB ?_ | refine jX rfl ?_ | refine jY rfl ?_ | refine jK ?_ | refine jD ?_ | refine jE ?_)
              have hput : n.put x kid = { n with names := n.names.take k ++ x :: n.names.drop k, kids := n.kids.take k ++ kid :: n.kids.drop k } := by rw [hg]; rfl
              have hl1 : (n.put x kid).names.length = k + 1 + (n.names.length - k) := by
                rw [hput]; simp only [List.length_append, List.length_cons, List.length_take, List.length_drop]; omega
              have hl2 : (n.put x kid).kids.length = k + 1 + (n.kids.length - k) := by
                rw [hput]; simp only [List.length_append, List.length_cons, List.length_take, List.length_drop]; omega
              have hsx := hxr.size
              refine EndV.mk fun w' hw' => ⟨_, rfl, ⟨Value.slice ad3s (k + 1 + (n.names.length - k)) cap3s, Value.slice ad3i (k + 1 + (n.kids.length - k)) cap3i, g3s, g3i, rfl, ?_, ?_, by omega⟩, (hxi.trans' (hXt.below (by omega) fun j hj e => by omega)).trans hw'⟩
              · rw [hl1, hput]
                exact ((hBn.exc (hi' := (setL wt b6 0 (n.cells (Value.slice ad3s (k + 1 + (n.names.length - k)) cap3s) (Value.slice ad3i (k + 1 + (n.kids.length - k)) cap3i))).heap.size) hXt (fun _ e => by omega) (Nat.le_refl _) hXt.size).ext hw' hw'.size).low (by omega)
              · rw [hl2, hput]
                exact ((hBi.exc (hi' := (setL wt b6 0 (n.cells (Value.slice ad3s (k + 1 + (n.names.length - k)) cap3s) (Value.slice ad3i (k + 1 + (n.kids.length - k)) cap3i))).heap.size) hXt (fun _ e => by omega) (Nat.le_refl _) hXt.size).ext hw' hw'.size).low (by omega)
          · refine WpE.ef (by exact rfl) (by exact rfl) ?_
            refine Made.mk fun gli wq hq _ _ hlc _ => ?_
            have hRi := hRi.trans hq
            have hsrci : CellsAt wq gli 0 [(.int .i64 kid : Value)] := CellsAt.of_block hlc (fun i v hi => by simpa using hi)
            refine ⟨Keep.ext hRi, ?_⟩
            repeat (first | refine uM ?_ | refine uR ?_ | refine uE ?_ | refine uB ?_ | refine uA ?_ | refine uD ?_ | refine jC ?_ | refine jN ?_ | refine jS ?_ | refine jR ?_ | refine jT ?_ | refine jB ?_ | refine jX rfl ?_ | refine jY rfl ?_ | refine jK ?_ | refine jD ?_ | refine jE ?_)
            refine Made.mk fun g0i wq hq _ _ _ _ => ?_
            have hRi := hRi.trans hq
            have hsrci := hsrci.ext hq
            refine ⟨Keep.ext hRi, ?_⟩
            repeat (first | refine uM ?_ | refine uR ?_ | refine uE ?_ | refine uB ?_ | refine uA ?_ | refine uD ?_ | refine jC ?_ | refine jN ?_ | refine jS ?_ | refine jR ?_ | refine jT ?_ | refine jB ?_ | refine jX rfl ?_ | refine jY rfl ?_ | refine jK ?_ | refine jD ?_ | refine jE ?_)
            refine AppV.copyH (lo := ws.heap.size) (xs := (ints n.kids).take k) trivial ((Row1.takeV (k := k) (xs := ints n.kids) hN.2 (by omega)).ext (hxs.trans hRi)) (fun c hc => (ints_one n.kids) c (List.mem_of_mem_take hc)) (by omega) rfl hRi.size (fun v1i wq g1i hB1i hq hg1 => ?_)
            obtain ⟨ad1i, cap1i, rfl, _⟩ := id hB1i
            have hRi := hRi.trans hq
            have hsrci := hsrci.ext hq
            refine ⟨Keep.ext hRi, ?_⟩
            repeat (first | refine uM ?_ | refine uR ?_ | refine uE ?_ | refine uB ?_ | refine uA ?_ | refine uD ?_ | refine jC ?_ | refine jN ?_ | refine jS ?_ | refine jR ?_ | refine jT ?_ | refine jB ?_ | refine jX rfl ?_ | refine jY rfl ?_ | refine jK ?_ | refine jD ?_ | refine jE ?_)
            refine AppV.bufS hB1i (by omega) hsrci rfl (by simp [Value.oneCell']) (fun _ => trivial) (by omega) (by omega) rfl hRi.size (Nat.le_refl _) (fun v2i wq g2i hB2i hc2i hw2i => ?_)
            obtain ⟨ad2i, cap2i, rfl, _⟩ := id hB2i
            have hR2i : Vc.Ext ws wq := by
              rcases hw2i with ⟨e, e0, rfl⟩ | ⟨_, hq⟩
              · exact hRi.trans' (below_setL (Below.refl _ _) (hB1i.blk e0).1 _ _)
              · exact hRi.trans hq
            have hgB2i := (hB2i.blk hc2i).1
            refine ⟨Keep.ext hR2i, ?_⟩
            repeat (first | refine uM ?_ | refine uR ?_ | refine uE ?_ | refine uB ?_ | refine uA ?_ | refine uD ?_ | refine jC ?_ | refine jN ?_ | refine jS ?_ | refine jR ?_ | refine jT ?_ | refine jB ?_ | refine jX rfl ?_ | refine jY rfl ?_ | refine jK ?_ | refine jD ?_ | refine jE ?_)
            refine AppV.bufR (news := (ints n.kids).drop k) hB2i hc2i ((Row1.dropV (k := k) (xs := ints n.kids) hN.2 (by omega)).ext (hxs.trans hR2i)) (fun c hc => (ints_one n.kids) c (List.mem_of_mem_drop hc)) trivial (by omega) (by omega) rfl hR2i.size (Nat.le_refl _) (fun v3i wfi g3i hB3i hc3s' hw3i => ?_)
            obtain ⟨ad3i, cap3i, rfl, _⟩ := id hB3i
            have hR3i : Vc.Ext ws wfi := by
              rcases hw3i with ⟨e, rfl⟩ | ⟨_, hq⟩
              · exact hR2i.trans' (below_setL (Below.refl _ _) hgB2i _ _)
              · exact hR2i.trans hq
            have hB4i : BufS ws.heap.size wfi.heap.size wfi (.slice ad3i (k + 1 + (n.kids.length - k)) cap3i) (k + 1 + (n.kids.length - k)) 1 (ints (n.kids.take k ++ kid :: n.kids.drop k)) g3i := by
              have e : ints (n.kids.take k ++ kid :: n.kids.drop k) = (ints n.kids).take k ++ [(.int .i64 kid : Value)] ++ (ints n.kids).drop k := by simp [List.map_append, List.map_take, List.map_drop]
              rw [e]; exact hB3i
            have hgBi := hB3i.blk hc3s'
            refine ⟨Keep.ext hR3i, ?_⟩
            repeat (first | refine uM ?_ | refine uR ?_ | refine uE ?_ | refine uB ?_ | refine uA ?_ | refine uD ?_ | refine jC ?_ | refine jN ?_ | refine jS ?_ | refine jR ?_ | refine jT ?_ | refine jB ?_ | refine jX rfl ?_ | refine jY rfl ?_ | refine jK ?_ | refine jD ?_ | refine jE ?_)
            have hm8fi := hm8s.ext hR3i
            refine ⟨by have := hm8fi.sub (k := 6) (m := 1) (by omega); rwa [Nat.zero_add] at this, trivial, rfl, by simp [Value.oneCell'], ?_⟩
            repeat (first | refine uM ?_ | refine uR ?_ | refine uE ?_ | refine uB ?_ | refine uA ?_ | refine uD ?_ | refine jC ?_ | refine jN ?_ | refine jS ?_ | refine jR ?_ | refine jT ?_ | refine jB ?_ | refine jX rfl ?_ | refine jY rfl ?_ | refine jK ?_ | refine jD ?_ | refine jE ?_)
            have hXi : ExcP (fun j => j = b8) wfi (setL wfi b8 (0 + 6) [Value.slice ad3i (k + 1 + (n.kids.length - k)) cap3i]) := (ExcP.refl (fun j => j = b8) wfi).setL (S := fun j => j = b8) rfl _ _
            have hsi := hR3i.size
            have hc8i := ((hc8s.ext hR3i).setAt (x := Value.slice ad3i (k + 1 + (n.kids.length - k)) cap3i) (hm8fi.sub (k := 6) (m := 1) (by omega)) (by simp))
            have hm6i := (hm6s.ext hR3i).exc (by omega) hXi (fun e => h68 e)
            have hxi : Vc.Ext w (setL wfi b8 (0 + 6) [Value.slice ad3i (k + 1 + (n.kids.length - k)) cap3i]) := (hxs.trans hR3i).trans' (hXi.below (by have := hxr.size; omega) fun j hj e => by omega)
            have hBn := ((hBs.ext (hi' := wfi.heap.size) hR3i hsi).exc (hi' := (setL wfi b8 (0 + 6) [Value.slice ad3i (k + 1 + (n.kids.length - k)) cap3i]).heap.size) hXi (fun _ e => by omega) (Nat.le_refl _) (by rw [setL_size]; exact Nat.le_refl _))
            have hBi := hB4i.exc (hi' := (setL wfi b8 (0 + 6) [Value.slice ad3i (k + 1 + (n.kids.length - k)) cap3i]).heap.size) hXi (fun _ e => by omega) (Nat.le_refl _) (by rw [setL_size]; exact Nat.le_refl _)
            have hwi : wfi.heap.size ≤ (setL wfi b8 (0 + 6) [Value.slice ad3i (k + 1 + (n.kids.length - k)) cap3i]).heap.size := by rw [setL_size]; exact Nat.le_refl _
            generalize (setL wfi b8 (0 + 6) [Value.slice ad3i (k + 1 + (n.kids.length - k)) cap3i]) = wt at hc8i hm6i hxi hBn hBi hwi hXi ⊢
            refine LdN.mk hc8i rfl ?_
            repeat (first | refine jC ?_ | refine jN ?_ | refine jS ?_ | refine jR ?_ | refine jT ?_ | refine jB ?_ | refine jX rfl ?_ | refine jY rfl ?_ | refine jK ?_ | refine jD ?_ | refine jE ?_)
            refine ⟨hm6i, trivial, rfl, by simp [Value.oneCell'], ?_⟩
            repeat (first | refine jC ?_ | refine jN ?_ | refine jS ?_ | refine jR ?_ | refine jT ?_ | refine jB ?_ | refine jX rfl ?_ | refine jY rfl ?_ | refine jK ?_ | refine jD ?_ | refine jE ?_)
            have hXt : ExcP (fun j => j = b6) wt (setL wt b6 0 _) := (ExcP.refl (fun j => j = b6) wt).setL (S := fun j => j = b6) rfl (n.cells (Value.slice ad3s (k + 1 + (n.names.length - k)) cap3s) (Value.slice ad3i (k + 1 + (n.kids.length - k)) cap3i)) 0
            refine LdN.mk (CellsAt.setL_in (l := n.cells (Value.slice ad3s (k + 1 + (n.names.length - k)) cap3s) (Value.slice ad3i (k + 1 + (n.kids.length - k)) cap3i)) hm6i) rfl ?_
            repeat (first | refine jC ?_ | refine jN ?_ | refine jS ?_ | refine jR ?_ | refine jT ?_ | refine jB ?_ | refine jX rfl ?_ | refine jY rfl ?_ | refine jK ?_ | refine jD ?_ | refine jE ?_)
            have hput : n.put x kid = { n with names := n.names.take k ++ x :: n.names.drop k, kids := n.kids.take k ++ kid :: n.kids.drop k } := by rw [hg]; rfl
            have hl1 : (n.put x kid).names.length = k + 1 + (n.names.length - k) := by
              rw [hput]; simp only [List.length_append, List.length_cons, List.length_take, List.length_drop]; omega
            have hl2 : (n.put x kid).kids.length = k + 1 + (n.kids.length - k) := by
              rw [hput]; simp only [List.length_append, List.length_cons, List.length_take, List.length_drop]; omega
            have hsx := hxr.size
            refine EndV.mk fun w' hw' => ⟨_, rfl, ⟨Value.slice ad3s (k + 1 + (n.names.length - k)) cap3s, Value.slice ad3i (k + 1 + (n.kids.length - k)) cap3i, g3s, g3i, rfl, ?_, ?_, by omega⟩, (hxi.trans' (hXt.below (by omega) fun j hj e => by omega)).trans hw'⟩
            · rw [hl1, hput]
              exact ((hBn.exc (hi' := (setL wt b6 0 (n.cells (Value.slice ad3s (k + 1 + (n.names.length - k)) cap3s) (Value.slice ad3i (k + 1 + (n.kids.length - k)) cap3i))).heap.size) hXt (fun _ e => by omega) (Nat.le_refl _) hXt.size).ext hw' hw'.size).low (by omega)
            · rw [hl2, hput]
              exact ((hBi.exc (hi' := (setL wt b6 0 (n.cells (Value.slice ad3s (k + 1 + (n.names.length - k)) cap3s) (Value.slice ad3i (k + 1 + (n.kids.length - k)) cap3i))).heap.size) hXt (fun _ e => by omega) (Nat.le_refl _) hXt.size).ext hw' hw'.size).low (by omega)
        · refine WpE.ef (by exact rfl) (by exact rfl) ?_
          refine Made.mk fun gls wq hq _ _ hlc _ => ?_
          have hRs := hRs.trans hq
          have hsrcs : CellsAt wq gls 0 [(.string x : Value)] := CellsAt.of_block hlc (fun i v hi => by simpa using hi)
          refine ⟨Keep.ext hRs, ?_⟩
          repeat (first | refine uM ?_ | refine uR ?_ | refine uE ?_ | refine uB ?_ | refine uA ?_ | refine uD ?_ | refine jC ?_ | refine jN ?_ | refine jS ?_ | refine jR ?_ | refine jT ?_ | refine jB ?_ | refine jX rfl ?_ | refine jY rfl ?_ | refine jK ?_ | refine jD ?_ | refine jE ?_)
          refine AppV.copyH (lo := wr.heap.size) (xs := (strs n.names).take k) trivial ((Row1.takeV (k := k) (xs := strs n.names) hN.1 (by omega)).ext (hxr.trans hRs)) (fun c hc => (strs_one n.names) c (List.mem_of_mem_take hc)) (by omega) rfl hRs.size (fun v1s wq g1s hB1s hq hg1 => ?_)
          obtain ⟨ad1s, cap1s, rfl, _⟩ := id hB1s
          have hRs := hRs.trans hq
          have hsrcs := hsrcs.ext hq
          refine ⟨Keep.ext hRs, ?_⟩
          repeat (first | refine uM ?_ | refine uR ?_ | refine uE ?_ | refine uB ?_ | refine uA ?_ | refine uD ?_ | refine jC ?_ | refine jN ?_ | refine jS ?_ | refine jR ?_ | refine jT ?_ | refine jB ?_ | refine jX rfl ?_ | refine jY rfl ?_ | refine jK ?_ | refine jD ?_ | refine jE ?_)
          refine AppV.bufS hB1s (by omega) hsrcs rfl (by simp [Value.oneCell']) (fun _ => trivial) (by omega) (by omega) rfl hRs.size (Nat.le_refl _) (fun v2s wq g2s hB2s hc2s hw2s => ?_)
          obtain ⟨ad2s, cap2s, rfl, _⟩ := id hB2s
          have hR2s : Vc.Ext wr wq := by
            rcases hw2s with ⟨e, e0, rfl⟩ | ⟨_, hq⟩
            · exact hRs.trans' (below_setL (Below.refl _ _) (hB1s.blk e0).1 _ _)
            · exact hRs.trans hq
          have hgB2s := (hB2s.blk hc2s).1
          refine ⟨Keep.ext hR2s, ?_⟩
          repeat (first | refine uM ?_ | refine uR ?_ | refine uE ?_ | refine uB ?_ | refine uA ?_ | refine uD ?_ | refine jC ?_ | refine jN ?_ | refine jS ?_ | refine jR ?_ | refine jT ?_ | refine jB ?_ | refine jX rfl ?_ | refine jY rfl ?_ | refine jK ?_ | refine jD ?_ | refine jE ?_)
          refine AppV.bufR (news := (strs n.names).drop k) hB2s hc2s ((Row1.dropV (k := k) (xs := strs n.names) hN.1 (by omega)).ext (hxr.trans hR2s)) (fun c hc => (strs_one n.names) c (List.mem_of_mem_drop hc)) trivial (by omega) (by omega) rfl hR2s.size (Nat.le_refl _) (fun v3s wfs g3s hB3s hc3' hw3s => ?_)
          obtain ⟨ad3s, cap3s, rfl, _⟩ := id hB3s
          have hR3s : Vc.Ext wr wfs := by
            rcases hw3s with ⟨e, rfl⟩ | ⟨_, hq⟩
            · exact hR2s.trans' (below_setL (Below.refl _ _) hgB2s _ _)
            · exact hR2s.trans hq
          have hB4s : BufS wr.heap.size wfs.heap.size wfs (.slice ad3s (k + 1 + (n.names.length - k)) cap3s) (k + 1 + (n.names.length - k)) 1 (strs (n.names.take k ++ x :: n.names.drop k)) g3s := by
            have e : strs (n.names.take k ++ x :: n.names.drop k) = (strs n.names).take k ++ [(.string x : Value)] ++ (strs n.names).drop k := by simp [List.map_append, List.map_take, List.map_drop]
            rw [e]; exact hB3s
          have hgBs := hB3s.blk hc3'
          refine ⟨Keep.ext hR3s, ?_⟩
          repeat (first | refine uM ?_ | refine uR ?_ | refine uE ?_ | refine uB ?_ | refine uA ?_ | refine uD ?_ | refine jC ?_ | refine jN ?_ | refine jS ?_ | refine jR ?_ | refine jT ?_ | refine jB ?_ | refine jX rfl ?_ | refine jY rfl ?_ | refine jK ?_ | refine jD ?_ | refine jE ?_)
          have hm8fs := hm8.ext hR3s
          refine ⟨by have := hm8fs.sub (k := 5) (m := 1) (by omega); rwa [Nat.zero_add] at this, trivial, rfl, by simp [Value.oneCell'], ?_⟩
          repeat (first | refine uM ?_ | refine uR ?_ | refine uE ?_ | refine uB ?_ | refine uA ?_ | refine uD ?_ | refine jC ?_ | refine jN ?_ | refine jS ?_ | refine jR ?_ | refine jT ?_ | refine jB ?_ | refine jX rfl ?_ | refine jY rfl ?_ | refine jK ?_ | refine jD ?_ | refine jE ?_)
          have hXs : ExcP (fun j => j = b8) wfs (setL wfs b8 (0 + 5) [Value.slice ad3s (k + 1 + (n.names.length - k)) cap3s]) := (ExcP.refl (fun j => j = b8) wfs).setL (S := fun j => j = b8) rfl _ _
          have hm8s : MutN (setL wfs b8 (0 + 5) [Value.slice ad3s (k + 1 + (n.names.length - k)) cap3s]) b8 0 7 := MutN.setL _ _ _ hm8fs
          have hc8s := ((hc8.ext hR3s).setAt (x := Value.slice ad3s (k + 1 + (n.names.length - k)) cap3s) (hm8fs.sub (k := 5) (m := 1) (by omega)) (by simp))
          have hsr := hR3s.size
          have hc3s := (hc3.ext hR3s).exc (by omega) hXs (fun e => h38 e)
          have hm6s := (hm6.ext hR3s).exc (by omega) hXs (fun e => h68 e)
          have hxs : Vc.Ext w (setL wfs b8 (0 + 5) [Value.slice ad3s (k + 1 + (n.names.length - k)) cap3s]) := (hxr.trans hR3s).trans' (hXs.below (by have := hxr.size; omega) fun j hj e => by omega)
          have hBs := hB4s.exc (hi' := (setL wfs b8 (0 + 5) [Value.slice ad3s (k + 1 + (n.names.length - k)) cap3s]).heap.size) hXs (fun _ e => by omega) (Nat.le_refl _) (by rw [setL_size]; exact Nat.le_refl _)
          have hwl : wfs.heap.size ≤ (setL wfs b8 (0 + 5) [Value.slice ad3s (k + 1 + (n.names.length - k)) cap3s]).heap.size := by rw [setL_size]; exact Nat.le_refl _
          generalize (setL wfs b8 (0 + 5) [Value.slice ad3s (k + 1 + (n.names.length - k)) cap3s]) = ws at hm8s hc8s hc3s hm6s hxs hBs hwl hXs ⊢
          have hxr0 := hxs
          refine WpC.drawE (.st 1 (.st 2 (.st 3 (.st 4 (.st 6 (.st 9 (.st 10 (.st 11 (.st 12 (.ef 0 (.ef 5 (.ef 7 (.ef 8 (.ef 13 (.st 14 (.ef 15 .done .done)) .done) .done) .done) (.ef 7 (.ef 5 (.ef 8 (.ef 13 (.st 14 (.ef 15 .done .done)) .done) .done) .done) .done)) (.ef 7 (.ef 0 (.ef 5 (.ef 8 (.ef 13 (.st 14 (.ef 15 .done .done)) .done) .done) .done) .done) .done))))))))))) [(0, .ef), (3, .mv), (5, .ef), (6, .mv), (7, .ef), (8, .ef), (11, .mv), (13, .ef), (15, .br)] (by kernel_rfl) ?_
          repeat (first | refine uM ?_ | refine uR ?_ | refine uE ?_ | refine uB ?_ | refine uA ?_ | refine uD ?_ | refine jC ?_ | refine jN ?_ | refine jS ?_ | refine jR ?_ | refine jT ?_ | refine jB ?_ | refine jX rfl ?_ | refine jY rfl ?_ | refine jK ?_ | refine jD ?_ | refine jE ?_)
          refine Ld.mk (hc3s.out 6 _ rfl) ?_
          repeat (first | refine uM ?_ | refine uR ?_ | refine uE ?_ | refine uB ?_ | refine uA ?_ | refine uD ?_ | refine jC ?_ | refine jN ?_ | refine jS ?_ | refine jR ?_ | refine jT ?_ | refine jB ?_ | refine jX rfl ?_ | refine jY rfl ?_ | refine jK ?_ | refine jD ?_ | refine jE ?_)
          refine ⟨k, rfl, by omega, ?_⟩
          repeat (first | refine uM ?_ | refine uR ?_ | refine uE ?_ | refine uB ?_ | refine uA ?_ | refine uD ?_ | refine jC ?_ | refine jN ?_ | refine jS ?_ | refine jR ?_ | refine jT ?_ | refine jB ?_ | refine jX rfl ?_ | refine jY rfl ?_ | refine jK ?_ | refine jD ?_ | refine jE ?_)
          refine Ld.mk (hc3s.out 6 _ rfl) ?_
          repeat (first | refine uM ?_ | refine uR ?_ | refine uE ?_ | refine uB ?_ | refine uA ?_ | refine uD ?_ | refine jC ?_ | refine jN ?_ | refine jS ?_ | refine jR ?_ | refine jT ?_ | refine jB ?_ | refine jX rfl ?_ | refine jY rfl ?_ | refine jK ?_ | refine jD ?_ | refine jE ?_)
          refine ⟨k, rfl, by omega, by omega, ?_⟩
          repeat (first | refine uM ?_ | refine uR ?_ | refine uE ?_ | refine uB ?_ | refine uA ?_ | refine uD ?_ | refine jC ?_ | refine jN ?_ | refine jS ?_ | refine jR ?_ | refine jT ?_ | refine jB ?_ | refine jX rfl ?_ | refine jY rfl ?_ | refine jK ?_ | refine jD ?_ | refine jE ?_)
          have hRi := Vc.Ext.refl ws
          refine WpE.ef2 (by exact rfl) (by exact rfl) ?_ ?_
          · skip
            refine Made.mk fun g0i wq hq _ _ _ _ => ?_
            have hRi := hRi.trans hq
            refine ⟨Keep.ext hRi, ?_⟩
            repeat (first | refine uM ?_ | refine uR ?_ | refine uE ?_ | refine uB ?_ | refine uA ?_ | refine uD ?_ | refine jC ?_ | refine jN ?_ | refine jS ?_ | refine jR ?_ | refine jT ?_ | refine jB ?_ | refine jX rfl ?_ | refine jY rfl ?_ | refine jK ?_ | refine jD ?_ | refine jE ?_)
            refine WpE.ef2 (by exact rfl) (by exact rfl) ?_ ?_
            · skip
              refine AppV.copyH (lo := ws.heap.size) (xs := (ints n.kids).take k) trivial ((Row1.takeV (k := k) (xs := ints n.kids) hN.2 (by omega)).ext (hxs.trans hRi)) (fun c hc => (ints_one n.kids) c (List.mem_of_mem_take hc)) (by omega) rfl hRi.size (fun v1i wq g1i hB1i hq hg1 => ?_)
              obtain ⟨ad1i, cap1i, rfl, _⟩ := id hB1i
              have hRi := hRi.trans hq
              refine ⟨Keep.ext hRi, ?_⟩
              repeat (first | refine uM ?_ | refine uR ?_ | refine uE ?_ | refine uB ?_ | refine uA ?_ | refine uD ?_ | refine jC ?_ | refine jN ?_ | refine jS ?_ | refine jR ?_ | refine jT ?_ | refine jB ?_ | refine jX rfl ?_ | refine jY rfl ?_ | refine jK ?_ | refine jD ?_ | refine jE ?_)
              refine Made.mk fun gli wq hq _ _ hlc _ => ?_
              have hRi := hRi.trans hq
              have hsrci : CellsAt wq gli 0 [(.int .i64 kid : Value)] := CellsAt.of_block hlc (fun i v hi => by simpa using hi)
              have hB1i := hB1i.ext hq hq.size
              refine ⟨Keep.ext hRi, ?_⟩
              repeat (first | refine uM ?_ | refine uR ?_ | refine uE ?_ | refine uB ?_ | refine uA ?_ | refine uD ?_ | refine jC ?_ | refine jN ?_ | refine jS ?_ | refine jR ?_ | refine jT ?_ | refine jB ?_ | refine jX rfl ?_ | refine jY rfl ?_ | refine jK ?_ | refine jD ?_ | refine jE ?_)
              refine AppV.bufS hB1i (by omega) hsrci rfl (by simp [Value.oneCell']) (fun _ => trivial) (by omega) (by omega) rfl hRi.size (Nat.le_refl _) (fun v2i wq g2i hB2i hc2i hw2i => ?_)
              obtain ⟨ad2i, cap2i, rfl, _⟩ := id hB2i
              have hR2i : Vc.Ext ws wq := by
                rcases hw2i with ⟨e, e0, rfl⟩ | ⟨_, hq⟩
                · exact hRi.trans' (below_setL (Below.refl _ _) (hB1i.blk e0).1 _ _)
                · exact hRi.trans hq
              have hgB2i := (hB2i.blk hc2i).1
              refine ⟨Keep.ext hR2i, ?_⟩
              repeat (first | refine uM ?_ | refine uR ?_ | refine uE ?_ | refine uB ?_ | refine uA ?_ | refine uD ?_ | refine jC ?_ | refine jN ?_ | refine jS ?_ | refine jR ?_ | refine jT ?_ | refine jB ?_ | refine jX rfl ?_ | refine jY rfl ?_ | refine jK ?_ | refine jD ?_ | refine jE ?_)
              refine AppV.bufR (news := (ints n.kids).drop k) hB2i hc2i ((Row1.dropV (k := k) (xs := ints n.kids) hN.2 (by omega)).ext (hxs.trans hR2i)) (fun c hc => (ints_one n.kids) c (List.mem_of_mem_drop hc)) trivial (by omega) (by omega) rfl hR2i.size (Nat.le_refl _) (fun v3i wfi g3i hB3i hc3s' hw3i => ?_)
              obtain ⟨ad3i, cap3i, rfl, _⟩ := id hB3i
              have hR3i : Vc.Ext ws wfi := by
                rcases hw3i with ⟨e, rfl⟩ | ⟨_, hq⟩
                · exact hR2i.trans' (below_setL (Below.refl _ _) hgB2i _ _)
                · exact hR2i.trans hq
              have hB4i : BufS ws.heap.size wfi.heap.size wfi (.slice ad3i (k + 1 + (n.kids.length - k)) cap3i) (k + 1 + (n.kids.length - k)) 1 (ints (n.kids.take k ++ kid :: n.kids.drop k)) g3i := by
                have e : ints (n.kids.take k ++ kid :: n.kids.drop k) = (ints n.kids).take k ++ [(.int .i64 kid : Value)] ++ (ints n.kids).drop k := by simp [List.map_append, List.map_take, List.map_drop]
                rw [e]; exact hB3i
              have hgBi := hB3i.blk hc3s'
              refine ⟨Keep.ext hR3i, ?_⟩
              repeat (first | refine uM ?_ | refine uR ?_ | refine uE ?_ | refine uB ?_ | refine uA ?_ | refine uD ?_ | refine jC ?_ | refine jN ?_ | refine jS ?_ | refine jR ?_ | refine jT ?_ | refine jB ?_ | refine jX rfl ?_ | refine jY rfl ?_ | refine jK ?_ | refine jD ?_ | refine jE ?_)
              have hm8fi := hm8s.ext hR3i
              refine ⟨by have := hm8fi.sub (k := 6) (m := 1) (by omega); rwa [Nat.zero_add] at this, trivial, rfl, by simp [Value.oneCell'], ?_⟩
              repeat (first | refine uM ?_ | refine uR ?_ | refine uE ?_ | refine uB ?_ | refine uA ?_ | refine uD ?_ | refine jC ?_ | refine jN ?_ | refine jS ?_ | refine jR ?_ | refine jT ?_ | refine jB ?_ | refine jX rfl ?_ | refine jY rfl ?_ | refine jK ?_ | refine jD ?_ | refine jE ?_)
              have hXi : ExcP (fun j => j = b8) wfi (setL wfi b8 (0 + 6) [Value.slice ad3i (k + 1 + (n.kids.length - k)) cap3i]) := (ExcP.refl (fun j => j = b8) wfi).setL (S := fun j => j = b8) rfl _ _
              have hsi := hR3i.size
              have hc8i := ((hc8s.ext hR3i).setAt (x := Value.slice ad3i (k + 1 + (n.kids.length - k)) cap3i) (hm8fi.sub (k := 6) (m := 1) (by omega)) (by simp))
              have hm6i := (hm6s.ext hR3i).exc (by omega) hXi (fun e => h68 e)
              have hxi : Vc.Ext w (setL wfi b8 (0 + 6) [Value.slice ad3i (k + 1 + (n.kids.length - k)) cap3i]) := (hxs.trans hR3i).trans' (hXi.below (by have := hxr.size; omega) fun j hj e => by omega)
              have hBn := ((hBs.ext (hi' := wfi.heap.size) hR3i hsi).exc (hi' := (setL wfi b8 (0 + 6) [Value.slice ad3i (k + 1 + (n.kids.length - k)) cap3i]).heap.size) hXi (fun _ e => by omega) (Nat.le_refl _) (by rw [setL_size]; exact Nat.le_refl _))
              have hBi := hB4i.exc (hi' := (setL wfi b8 (0 + 6) [Value.slice ad3i (k + 1 + (n.kids.length - k)) cap3i]).heap.size) hXi (fun _ e => by omega) (Nat.le_refl _) (by rw [setL_size]; exact Nat.le_refl _)
              have hwi : wfi.heap.size ≤ (setL wfi b8 (0 + 6) [Value.slice ad3i (k + 1 + (n.kids.length - k)) cap3i]).heap.size := by rw [setL_size]; exact Nat.le_refl _
              generalize (setL wfi b8 (0 + 6) [Value.slice ad3i (k + 1 + (n.kids.length - k)) cap3i]) = wt at hc8i hm6i hxi hBn hBi hwi hXi ⊢
              refine LdN.mk hc8i rfl ?_
              repeat (first | refine jC ?_ | refine jN ?_ | refine jS ?_ | refine jR ?_ | refine jT ?_ | refine jB ?_ | refine jX rfl ?_ | refine jY rfl ?_ | refine jK ?_ | refine jD ?_ | refine jE ?_)
              refine ⟨hm6i, trivial, rfl, by simp [Value.oneCell'], ?_⟩
              repeat (first | refine jC ?_ | refine jN ?_ | refine jS ?_ | refine jR ?_ | refine jT ?_ | refine jB ?_ | refine jX rfl ?_ | refine jY rfl ?_ | refine jK ?_ | refine jD ?_ | refine jE ?_)
              have hXt : ExcP (fun j => j = b6) wt (setL wt b6 0 _) := (ExcP.refl (fun j => j = b6) wt).setL (S := fun j => j = b6) rfl (n.cells (Value.slice ad3s (k + 1 + (n.names.length - k)) cap3s) (Value.slice ad3i (k + 1 + (n.kids.length - k)) cap3i)) 0
              refine LdN.mk (CellsAt.setL_in (l := n.cells (Value.slice ad3s (k + 1 + (n.names.length - k)) cap3s) (Value.slice ad3i (k + 1 + (n.kids.length - k)) cap3i)) hm6i) rfl ?_
              repeat (first | refine jC ?_ | refine jN ?_ | refine jS ?_ | refine jR ?_ | refine jT ?_ | refine jB ?_ | refine jX rfl ?_ | refine jY rfl ?_ | refine jK ?_ | refine jD ?_ | refine jE ?_)
              have hput : n.put x kid = { n with names := n.names.take k ++ x :: n.names.drop k, kids := n.kids.take k ++ kid :: n.kids.drop k } := by rw [hg]; rfl
              have hl1 : (n.put x kid).names.length = k + 1 + (n.names.length - k) := by
                rw [hput]; simp only [List.length_append, List.length_cons, List.length_take, List.length_drop]; omega
              have hl2 : (n.put x kid).kids.length = k + 1 + (n.kids.length - k) := by
                rw [hput]; simp only [List.length_append, List.length_cons, List.length_take, List.length_drop]; omega
              have hsx := hxr.size
              refine EndV.mk fun w' hw' => ⟨_, rfl, ⟨Value.slice ad3s (k + 1 + (n.names.length - k)) cap3s, Value.slice ad3i (k + 1 + (n.kids.length - k)) cap3i, g3s, g3i, rfl, ?_, ?_, by omega⟩, (hxi.trans' (hXt.below (by omega) fun j hj e => by omega)).trans hw'⟩
              · rw [hl1, hput]
                exact ((hBn.exc (hi' := (setL wt b6 0 (n.cells (Value.slice ad3s (k + 1 + (n.names.length - k)) cap3s) (Value.slice ad3i (k + 1 + (n.kids.length - k)) cap3i))).heap.size) hXt (fun _ e => by omega) (Nat.le_refl _) hXt.size).ext hw' hw'.size).low (by omega)
              · rw [hl2, hput]
                exact ((hBi.exc (hi' := (setL wt b6 0 (n.cells (Value.slice ad3s (k + 1 + (n.names.length - k)) cap3s) (Value.slice ad3i (k + 1 + (n.kids.length - k)) cap3i))).heap.size) hXt (fun _ e => by omega) (Nat.le_refl _) hXt.size).ext hw' hw'.size).low (by omega)
            · refine WpE.ef (by exact rfl) (by exact rfl) ?_
              refine Made.mk fun gli wq hq _ _ hlc _ => ?_
              have hRi := hRi.trans hq
              have hsrci : CellsAt wq gli 0 [(.int .i64 kid : Value)] := CellsAt.of_block hlc (fun i v hi => by simpa using hi)
              refine ⟨Keep.ext hRi, ?_⟩
              repeat (first | refine uM ?_ | refine uR ?_ | refine uE ?_ | refine uB ?_ | refine uA ?_ | refine uD ?_ | refine jC ?_ | refine jN ?_ | refine jS ?_ | refine jR ?_ | refine jT ?_ | refine jB ?_ | refine jX rfl ?_ | refine jY rfl ?_ | refine jK ?_ | refine jD ?_ | refine jE ?_)
              refine AppV.copyH (lo := ws.heap.size) (xs := (ints n.kids).take k) trivial ((Row1.takeV (k := k) (xs := ints n.kids) hN.2 (by omega)).ext (hxs.trans hRi)) (fun c hc => (ints_one n.kids) c (List.mem_of_mem_take hc)) (by omega) rfl hRi.size (fun v1i wq g1i hB1i hq hg1 => ?_)
              obtain ⟨ad1i, cap1i, rfl, _⟩ := id hB1i
              have hRi := hRi.trans hq
              have hsrci := hsrci.ext hq
              refine ⟨Keep.ext hRi, ?_⟩
              repeat (first | refine uM ?_ | refine uR ?_ | refine uE ?_ | refine uB ?_ | refine uA ?_ | refine uD ?_ | refine jC ?_ | refine jN ?_ | refine jS ?_ | refine jR ?_ | refine jT ?_ | refine jB ?_ | refine jX rfl ?_ | refine jY rfl ?_ | refine jK ?_ | refine jD ?_ | refine jE ?_)
              refine AppV.bufS hB1i (by omega) hsrci rfl (by simp [Value.oneCell']) (fun _ => trivial) (by omega) (by omega) rfl hRi.size (Nat.le_refl _) (fun v2i wq g2i hB2i hc2i hw2i => ?_)
              obtain ⟨ad2i, cap2i, rfl, _⟩ := id hB2i
              have hR2i : Vc.Ext ws wq := by
                rcases hw2i with ⟨e, e0, rfl⟩ | ⟨_, hq⟩
                · exact hRi.trans' (below_setL (Below.refl _ _) (hB1i.blk e0).1 _ _)
                · exact hRi.trans hq
              have hgB2i := (hB2i.blk hc2i).1
              refine ⟨Keep.ext hR2i, ?_⟩
              repeat (first | refine uM ?_ | refine uR ?_ | refine uE ?_ | refine uB ?_ | refine uA ?_ | refine uD ?_ | refine jC ?_ | refine jN ?_ | refine jS ?_ | refine jR ?_ | refine jT ?_ | refine jB ?_ | refine jX rfl ?_ | refine jY rfl ?_ | refine jK ?_ | refine jD ?_ | refine jE ?_)
              refine AppV.bufR (news := (ints n.kids).drop k) hB2i hc2i ((Row1.dropV (k := k) (xs := ints n.kids) hN.2 (by omega)).ext (hxs.trans hR2i)) (fun c hc => (ints_one n.kids) c (List.mem_of_mem_drop hc)) trivial (by omega) (by omega) rfl hR2i.size (Nat.le_refl _) (fun v3i wfi g3i hB3i hc3s' hw3i => ?_)
              obtain ⟨ad3i, cap3i, rfl, _⟩ := id hB3i
              have hR3i : Vc.Ext ws wfi := by
                rcases hw3i with ⟨e, rfl⟩ | ⟨_, hq⟩
                · exact hR2i.trans' (below_setL (Below.refl _ _) hgB2i _ _)
                · exact hR2i.trans hq
              have hB4i : BufS ws.heap.size wfi.heap.size wfi (.slice ad3i (k + 1 + (n.kids.length - k)) cap3i) (k + 1 + (n.kids.length - k)) 1 (ints (n.kids.take k ++ kid :: n.kids.drop k)) g3i := by
                have e : ints (n.kids.take k ++ kid :: n.kids.drop k) = (ints n.kids).take k ++ [(.int .i64 kid : Value)] ++ (ints n.kids).drop k := by simp [List.map_append, List.map_take, List.map_drop]
                rw [e]; exact hB3i
              have hgBi := hB3i.blk hc3s'
              refine ⟨Keep.ext hR3i, ?_⟩
              repeat (first | refine uM ?_ | refine uR ?_ | refine uE ?_ | refine uB ?_ | refine uA ?_ | refine uD ?_ | refine jC ?_ | refine jN ?_ | refine jS ?_ | refine jR ?_ | refine jT ?_ | refine jB ?_ | refine jX rfl ?_ | refine jY rfl ?_ | refine jK ?_ | refine jD ?_ | refine jE ?_)
              have hm8fi := hm8s.ext hR3i
              refine ⟨by have := hm8fi.sub (k := 6) (m := 1) (by omega); rwa [Nat.zero_add] at this, trivial, rfl, by simp [Value.oneCell'], ?_⟩
              repeat (first | refine uM ?_ | refine uR ?_ | refine uE ?_ | refine uB ?_ | refine uA ?_ | refine uD ?_ | refine jC ?_ | refine jN ?_ | refine jS ?_ | refine jR ?_ | refine jT ?_ | refine jB ?_ | refine jX rfl ?_ | refine jY rfl ?_ | refine jK ?_ | refine jD ?_ | refine jE ?_)
              have hXi : ExcP (fun j => j = b8) wfi (setL wfi b8 (0 + 6) [Value.slice ad3i (k + 1 + (n.kids.length - k)) cap3i]) := (ExcP.refl (fun j => j = b8) wfi).setL (S := fun j => j = b8) rfl _ _
              have hsi := hR3i.size
              have hc8i := ((hc8s.ext hR3i).setAt (x := Value.slice ad3i (k + 1 + (n.kids.length - k)) cap3i) (hm8fi.sub (k := 6) (m := 1) (by omega)) (by simp))
              have hm6i := (hm6s.ext hR3i).exc (by omega) hXi (fun e => h68 e)
              have hxi : Vc.Ext w (setL wfi b8 (0 + 6) [Value.slice ad3i (k + 1 + (n.kids.length - k)) cap3i]) := (hxs.trans hR3i).trans' (hXi.below (by have := hxr.size; omega) fun j hj e => by omega)
              have hBn := ((hBs.ext (hi' := wfi.heap.size) hR3i hsi).exc (hi' := (setL wfi b8 (0 + 6) [Value.slice ad3i (k + 1 + (n.kids.length - k)) cap3i]).heap.size) hXi (fun _ e => by omega) (Nat.le_refl _) (by rw [setL_size]; exact Nat.le_refl _))
              have hBi := hB4i.exc (hi' := (setL wfi b8 (0 + 6) [Value.slice ad3i (k + 1 + (n.kids.length - k)) cap3i]).heap.size) hXi (fun _ e => by omega) (Nat.le_refl _) (by rw [setL_size]; exact Nat.le_refl _)
              have hwi : wfi.heap.size ≤ (setL wfi b8 (0 + 6) [Value.slice ad3i (k + 1 + (n.kids.length - k)) cap3i]).heap.size := by rw [setL_size]; exact Nat.le_refl _
              generalize (setL wfi b8 (0 + 6) [Value.slice ad3i (k + 1 + (n.kids.length - k)) cap3i]) = wt at hc8i hm6i hxi hBn hBi hwi hXi ⊢
              refine LdN.mk hc8i rfl ?_
              repeat (first | refine jC ?_ | refine jN ?_ | refine jS ?_ | refine jR ?_ | refine jT ?_ | refine jB ?_ | refine jX rfl ?_ | refine jY rfl ?_ | refine jK ?_ | refine jD ?_ | refine jE ?_)
              refine ⟨hm6i, trivial, rfl, by simp [Value.oneCell'], ?_⟩
              repeat (first | refine jC ?_ | refine jN ?_ | refine jS ?_ | refine jR ?_ | refine jT ?_ | refine jB ?_ | refine jX rfl ?_ | refine jY rfl ?_ | refine jK ?_ | refine jD ?_ | refine jE ?_)
              have hXt : ExcP (fun j => j = b6) wt (setL wt b6 0 _) := (ExcP.refl (fun j => j = b6) wt).setL (S := fun j => j = b6) rfl (n.cells (Value.slice ad3s (k + 1 + (n.names.length - k)) cap3s) (Value.slice ad3i (k + 1 + (n.kids.length - k)) cap3i)) 0
              refine LdN.mk (CellsAt.setL_in (l := n.cells (Value.slice ad3s (k + 1 + (n.names.length - k)) cap3s) (Value.slice ad3i (k + 1 + (n.kids.length - k)) cap3i)) hm6i) rfl ?_
              repeat (first | refine jC ?_ | refine jN ?_ | refine jS ?_ | refine jR ?_ | refine jT ?_ | refine jB ?_ | refine jX rfl ?_ | refine jY rfl ?_ | refine jK ?_ | refine jD ?_ | refine jE ?_)
              have hput : n.put x kid = { n with names := n.names.take k ++ x :: n.names.drop k, kids := n.kids.take k ++ kid :: n.kids.drop k } := by rw [hg]; rfl
              have hl1 : (n.put x kid).names.length = k + 1 + (n.names.length - k) := by
                rw [hput]; simp only [List.length_append, List.length_cons, List.length_take, List.length_drop]; omega
              have hl2 : (n.put x kid).kids.length = k + 1 + (n.kids.length - k) := by
                rw [hput]; simp only [List.length_append, List.length_cons, List.length_take, List.length_drop]; omega
              have hsx := hxr.size
              refine EndV.mk fun w' hw' => ⟨_, rfl, ⟨Value.slice ad3s (k + 1 + (n.names.length - k)) cap3s, Value.slice ad3i (k + 1 + (n.kids.length - k)) cap3i, g3s, g3i, rfl, ?_, ?_, by omega⟩, (hxi.trans' (hXt.below (by omega) fun j hj e => by omega)).trans hw'⟩
              · rw [hl1, hput]
                exact ((hBn.exc (hi' := (setL wt b6 0 (n.cells (Value.slice ad3s (k + 1 + (n.names.length - k)) cap3s) (Value.slice ad3i (k + 1 + (n.kids.length - k)) cap3i))).heap.size) hXt (fun _ e => by omega) (Nat.le_refl _) hXt.size).ext hw' hw'.size).low (by omega)
              · rw [hl2, hput]
                exact ((hBi.exc (hi' := (setL wt b6 0 (n.cells (Value.slice ad3s (k + 1 + (n.names.length - k)) cap3s) (Value.slice ad3i (k + 1 + (n.kids.length - k)) cap3i))).heap.size) hXt (fun _ e => by omega) (Nat.le_refl _) hXt.size).ext hw' hw'.size).low (by omega)
          · refine WpE.ef (by exact rfl) (by exact rfl) ?_
            refine Made.mk fun gli wq hq _ _ hlc _ => ?_
            have hRi := hRi.trans hq
            have hsrci : CellsAt wq gli 0 [(.int .i64 kid : Value)] := CellsAt.of_block hlc (fun i v hi => by simpa using hi)
            refine ⟨Keep.ext hRi, ?_⟩
            repeat (first | refine uM ?_ | refine uR ?_ | refine uE ?_ | refine uB ?_ | refine uA ?_ | refine uD ?_ | refine jC ?_ | refine jN ?_ | refine jS ?_ | refine jR ?_ | refine jT ?_ | refine jB ?_ | refine jX rfl ?_ | refine jY rfl ?_ | refine jK ?_ | refine jD ?_ | refine jE ?_)
            refine Made.mk fun g0i wq hq _ _ _ _ => ?_
            have hRi := hRi.trans hq
            have hsrci := hsrci.ext hq
            refine ⟨Keep.ext hRi, ?_⟩
            repeat (first | refine uM ?_ | refine uR ?_ | refine uE ?_ | refine uB ?_ | refine uA ?_ | refine uD ?_ | refine jC ?_ | refine jN ?_ | refine jS ?_ | refine jR ?_ | refine jT ?_ | refine jB ?_ | refine jX rfl ?_ | refine jY rfl ?_ | refine jK ?_ | refine jD ?_ | refine jE ?_)
            refine AppV.copyH (lo := ws.heap.size) (xs := (ints n.kids).take k) trivial ((Row1.takeV (k := k) (xs := ints n.kids) hN.2 (by omega)).ext (hxs.trans hRi)) (fun c hc => (ints_one n.kids) c (List.mem_of_mem_take hc)) (by omega) rfl hRi.size (fun v1i wq g1i hB1i hq hg1 => ?_)
            obtain ⟨ad1i, cap1i, rfl, _⟩ := id hB1i
            have hRi := hRi.trans hq
            have hsrci := hsrci.ext hq
            refine ⟨Keep.ext hRi, ?_⟩
            repeat (first | refine uM ?_ | refine uR ?_ | refine uE ?_ | refine uB ?_ | refine uA ?_ | refine uD ?_ | refine jC ?_ | refine jN ?_ | refine jS ?_ | refine jR ?_ | refine jT ?_ | refine jB ?_ | refine jX rfl ?_ | refine jY rfl ?_ | refine jK ?_ | refine jD ?_ | refine jE ?_)
            refine AppV.bufS hB1i (by omega) hsrci rfl (by simp [Value.oneCell']) (fun _ => trivial) (by omega) (by omega) rfl hRi.size (Nat.le_refl _) (fun v2i wq g2i hB2i hc2i hw2i => ?_)
            obtain ⟨ad2i, cap2i, rfl, _⟩ := id hB2i
            have hR2i : Vc.Ext ws wq := by
              rcases hw2i with ⟨e, e0, rfl⟩ | ⟨_, hq⟩
              · exact hRi.trans' (below_setL (Below.refl _ _) (hB1i.blk e0).1 _ _)
              · exact hRi.trans hq
            have hgB2i := (hB2i.blk hc2i).1
            refine ⟨Keep.ext hR2i, ?_⟩
            repeat (first | refine uM ?_ | refine uR ?_ | refine uE ?_ | refine uB ?_ | refine uA ?_ | refine uD ?_ | refine jC ?_ | refine jN ?_ | refine jS ?_ | refine jR ?_ | refine jT ?_ | refine jB ?_ | refine jX rfl ?_ | refine jY rfl ?_ | refine jK ?_ | refine jD ?_ | refine jE ?_)
            refine AppV.bufR (news := (ints n.kids).drop k) hB2i hc2i ((Row1.dropV (k := k) (xs := ints n.kids) hN.2 (by omega)).ext (hxs.trans hR2i)) (fun c hc => (ints_one n.kids) c (List.mem_of_mem_drop hc)) trivial (by omega) (by omega) rfl hR2i.size (Nat.le_refl _) (fun v3i wfi g3i hB3i hc3s' hw3i => ?_)
            obtain ⟨ad3i, cap3i, rfl, _⟩ := id hB3i
            have hR3i : Vc.Ext ws wfi := by
              rcases hw3i with ⟨e, rfl⟩ | ⟨_, hq⟩
              · exact hR2i.trans' (below_setL (Below.refl _ _) hgB2i _ _)
              · exact hR2i.trans hq
            have hB4i : BufS ws.heap.size wfi.heap.size wfi (.slice ad3i (k + 1 + (n.kids.length - k)) cap3i) (k + 1 + (n.kids.length - k)) 1 (ints (n.kids.take k ++ kid :: n.kids.drop k)) g3i := by
              have e : ints (n.kids.take k ++ kid :: n.kids.drop k) = (ints n.kids).take k ++ [(.int .i64 kid : Value)] ++ (ints n.kids).drop k := by simp [List.map_append, List.map_take, List.map_drop]
              rw [e]; exact hB3i
            have hgBi := hB3i.blk hc3s'
            refine ⟨Keep.ext hR3i, ?_⟩
            repeat (first | refine uM ?_ | refine uR ?_ | refine uE ?_ | refine uB ?_ | refine uA ?_ | refine uD ?_ | refine jC ?_ | refine jN ?_ | refine jS ?_ | refine jR ?_ | refine jT ?_ | refine jB ?_ | refine jX rfl ?_ | refine jY rfl ?_ | refine jK ?_ | refine jD ?_ | refine jE ?_)
            have hm8fi := hm8s.ext hR3i
            refine ⟨by have := hm8fi.sub (k := 6) (m := 1) (by omega); rwa [Nat.zero_add] at this, trivial, rfl, by simp [Value.oneCell'], ?_⟩
            repeat (first | refine uM ?_ | refine uR ?_ | refine uE ?_ | refine uB ?_ | refine uA ?_ | refine uD ?_ | refine jC ?_ | refine jN ?_ | refine jS ?_ | refine jR ?_ | refine jT ?_ | refine jB ?_ | refine jX rfl ?_ | refine jY rfl ?_ | refine jK ?_ | refine jD ?_ | refine jE ?_)
            have hXi : ExcP (fun j => j = b8) wfi (setL wfi b8 (0 + 6) [Value.slice ad3i (k + 1 + (n.kids.length - k)) cap3i]) := (ExcP.refl (fun j => j = b8) wfi).setL (S := fun j => j = b8) rfl _ _
            have hsi := hR3i.size
            have hc8i := ((hc8s.ext hR3i).setAt (x := Value.slice ad3i (k + 1 + (n.kids.length - k)) cap3i) (hm8fi.sub (k := 6) (m := 1) (by omega)) (by simp))
            have hm6i := (hm6s.ext hR3i).exc (by omega) hXi (fun e => h68 e)
            have hxi : Vc.Ext w (setL wfi b8 (0 + 6) [Value.slice ad3i (k + 1 + (n.kids.length - k)) cap3i]) := (hxs.trans hR3i).trans' (hXi.below (by have := hxr.size; omega) fun j hj e => by omega)
            have hBn := ((hBs.ext (hi' := wfi.heap.size) hR3i hsi).exc (hi' := (setL wfi b8 (0 + 6) [Value.slice ad3i (k + 1 + (n.kids.length - k)) cap3i]).heap.size) hXi (fun _ e => by omega) (Nat.le_refl _) (by rw [setL_size]; exact Nat.le_refl _))
            have hBi := hB4i.exc (hi' := (setL wfi b8 (0 + 6) [Value.slice ad3i (k + 1 + (n.kids.length - k)) cap3i]).heap.size) hXi (fun _ e => by omega) (Nat.le_refl _) (by rw [setL_size]; exact Nat.le_refl _)
            have hwi : wfi.heap.size ≤ (setL wfi b8 (0 + 6) [Value.slice ad3i (k + 1 + (n.kids.length - k)) cap3i]).heap.size := by rw [setL_size]; exact Nat.le_refl _
            generalize (setL wfi b8 (0 + 6) [Value.slice ad3i (k + 1 + (n.kids.length - k)) cap3i]) = wt at hc8i hm6i hxi hBn hBi hwi hXi ⊢
            refine LdN.mk hc8i rfl ?_
            repeat (first | refine jC ?_ | refine jN ?_ | refine jS ?_ | refine jR ?_ | refine jT ?_ | refine jB ?_ | refine jX rfl ?_ | refine jY rfl ?_ | refine jK ?_ | refine jD ?_ | refine jE ?_)
            refine ⟨hm6i, trivial, rfl, by simp [Value.oneCell'], ?_⟩
            repeat (first | refine jC ?_ | refine jN ?_ | refine jS ?_ | refine jR ?_ | refine jT ?_ | refine jB ?_ | refine jX rfl ?_ | refine jY rfl ?_ | refine jK ?_ | refine jD ?_ | refine jE ?_)
            have hXt : ExcP (fun j => j = b6) wt (setL wt b6 0 _) := (ExcP.refl (fun j => j = b6) wt).setL (S := fun j => j = b6) rfl (n.cells (Value.slice ad3s (k + 1 + (n.names.length - k)) cap3s) (Value.slice ad3i (k + 1 + (n.kids.length - k)) cap3i)) 0
            refine LdN.mk (CellsAt.setL_in (l := n.cells (Value.slice ad3s (k + 1 + (n.names.length - k)) cap3s) (Value.slice ad3i (k + 1 + (n.kids.length - k)) cap3i)) hm6i) rfl ?_
            repeat (first | refine jC ?_ | refine jN ?_ | refine jS ?_ | refine jR ?_ | refine jT ?_ | refine jB ?_ | refine jX rfl ?_ | refine jY rfl ?_ | refine jK ?_ | refine jD ?_ | refine jE ?_)
            have hput : n.put x kid = { n with names := n.names.take k ++ x :: n.names.drop k, kids := n.kids.take k ++ kid :: n.kids.drop k } := by rw [hg]; rfl
            have hl1 : (n.put x kid).names.length = k + 1 + (n.names.length - k) := by
              rw [hput]; simp only [List.length_append, List.length_cons, List.length_take, List.length_drop]; omega
            have hl2 : (n.put x kid).kids.length = k + 1 + (n.kids.length - k) := by
              rw [hput]; simp only [List.length_append, List.length_cons, List.length_take, List.length_drop]; omega
            have hsx := hxr.size
            refine EndV.mk fun w' hw' => ⟨_, rfl, ⟨Value.slice ad3s (k + 1 + (n.names.length - k)) cap3s, Value.slice ad3i (k + 1 + (n.kids.length - k)) cap3i, g3s, g3i, rfl, ?_, ?_, by omega⟩, (hxi.trans' (hXt.below (by omega) fun j hj e => by omega)).trans hw'⟩
            · rw [hl1, hput]
              exact ((hBn.exc (hi' := (setL wt b6 0 (n.cells (Value.slice ad3s (k + 1 + (n.names.length - k)) cap3s) (Value.slice ad3i (k + 1 + (n.kids.length - k)) cap3i))).heap.size) hXt (fun _ e => by omega) (Nat.le_refl _) hXt.size).ext hw' hw'.size).low (by omega)
            · rw [hl2, hput]
              exact ((hBi.exc (hi' := (setL wt b6 0 (n.cells (Value.slice ad3s (k + 1 + (n.names.length - k)) cap3s) (Value.slice ad3i (k + 1 + (n.kids.length - k)) cap3i))).heap.size) hXt (fun _ e => by omega) (Nat.le_refl _) hXt.size).ext hw' hw'.size).low (by omega)
      · refine WpE.ef (by exact rfl) (by exact rfl) ?_
        refine Made.mk fun gls wq hq _ _ hlc _ => ?_
        have hRs := hRs.trans hq
        have hsrcs : CellsAt wq gls 0 [(.string x : Value)] := CellsAt.of_block hlc (fun i v hi => by simpa using hi)
        refine ⟨Keep.ext hRs, ?_⟩
        repeat (first | refine uM ?_ | refine uR ?_ | refine uE ?_ | refine uB ?_ | refine uA ?_ | refine uD ?_ | refine jC ?_ | refine jN ?_ | refine jS ?_ | refine jR ?_ | refine jT ?_ | refine jB ?_ | refine jX rfl ?_ | refine jY rfl ?_ | refine jK ?_ | refine jD ?_ | refine jE ?_)
        refine Made.mk fun g0s wq hq _ _ _ _ => ?_
        have hRs := hRs.trans hq
        have hsrcs := hsrcs.ext hq
        refine ⟨Keep.ext hRs, ?_⟩
        repeat (first | refine uM ?_ | refine uR ?_ | refine uE ?_ | refine uB ?_ | refine uA ?_ | refine uD ?_ | refine jC ?_ | refine jN ?_ | refine jS ?_ | refine jR ?_ | refine jT ?_ | refine jB ?_ | refine jX rfl ?_ | refine jY rfl ?_ | refine jK ?_ | refine jD ?_ | refine jE ?_)
        refine AppV.copyH (lo := wr.heap.size) (xs := (strs n.names).take k) trivial ((Row1.takeV (k := k) (xs := strs n.names) hN.1 (by omega)).ext (hxr.trans hRs)) (fun c hc => (strs_one n.names) c (List.mem_of_mem_take hc)) (by omega) rfl hRs.size (fun v1s wq g1s hB1s hq hg1 => ?_)
        obtain ⟨ad1s, cap1s, rfl, _⟩ := id hB1s
        have hRs := hRs.trans hq
        have hsrcs := hsrcs.ext hq
        refine ⟨Keep.ext hRs, ?_⟩
        repeat (first | refine uM ?_ | refine uR ?_ | refine uE ?_ | refine uB ?_ | refine uA ?_ | refine uD ?_ | refine jC ?_ | refine jN ?_ | refine jS ?_ | refine jR ?_ | refine jT ?_ | refine jB ?_ | refine jX rfl ?_ | refine jY rfl ?_ | refine jK ?_ | refine jD ?_ | refine jE ?_)
        refine AppV.bufS hB1s (by omega) hsrcs rfl (by simp [Value.oneCell']) (fun _ => trivial) (by omega) (by omega) rfl hRs.size (Nat.le_refl _) (fun v2s wq g2s hB2s hc2s hw2s => ?_)
        obtain ⟨ad2s, cap2s, rfl, _⟩ := id hB2s
        have hR2s : Vc.Ext wr wq := by
          rcases hw2s with ⟨e, e0, rfl⟩ | ⟨_, hq⟩
          · exact hRs.trans' (below_setL (Below.refl _ _) (hB1s.blk e0).1 _ _)
          · exact hRs.trans hq
        have hgB2s := (hB2s.blk hc2s).1
        refine ⟨Keep.ext hR2s, ?_⟩
        repeat (first | refine uM ?_ | refine uR ?_ | refine uE ?_ | refine uB ?_ | refine uA ?_ | refine uD ?_ | refine jC ?_ | refine jN ?_ | refine jS ?_ | refine jR ?_ | refine jT ?_ | refine jB ?_ | refine jX rfl ?_ | refine jY rfl ?_ | refine jK ?_ | refine jD ?_ | refine jE ?_)
        refine AppV.bufR (news := (strs n.names).drop k) hB2s hc2s ((Row1.dropV (k := k) (xs := strs n.names) hN.1 (by omega)).ext (hxr.trans hR2s)) (fun c hc => (strs_one n.names) c (List.mem_of_mem_drop hc)) trivial (by omega) (by omega) rfl hR2s.size (Nat.le_refl _) (fun v3s wfs g3s hB3s hc3' hw3s => ?_)
        obtain ⟨ad3s, cap3s, rfl, _⟩ := id hB3s
        have hR3s : Vc.Ext wr wfs := by
          rcases hw3s with ⟨e, rfl⟩ | ⟨_, hq⟩
          · exact hR2s.trans' (below_setL (Below.refl _ _) hgB2s _ _)
          · exact hR2s.trans hq
        have hB4s : BufS wr.heap.size wfs.heap.size wfs (.slice ad3s (k + 1 + (n.names.length - k)) cap3s) (k + 1 + (n.names.length - k)) 1 (strs (n.names.take k ++ x :: n.names.drop k)) g3s := by
          have e : strs (n.names.take k ++ x :: n.names.drop k) = (strs n.names).take k ++ [(.string x : Value)] ++ (strs n.names).drop k := by simp [List.map_append, List.map_take, List.map_drop]
          rw [e]; exact hB3s
        have hgBs := hB3s.blk hc3'
        refine ⟨Keep.ext hR3s, ?_⟩
        repeat (first | refine uM ?_ | refine uR ?_ | refine uE ?_ | refine uB ?_ | refine uA ?_ | refine uD ?_ | refine jC ?_ | refine jN ?_ | refine jS ?_ | refine jR ?_ | refine jT ?_ | refine jB ?_ | refine jX rfl ?_ | refine jY rfl ?_ | refine jK ?_ | refine jD ?_ | refine jE ?_)
        have hm8fs := hm8.ext hR3s
        refine ⟨by have := hm8fs.sub (k := 5) (m := 1) (by omega); rwa [Nat.zero_add] at this, trivial, rfl, by simp [Value.oneCell'], ?_⟩
        repeat (first | refine uM ?_ | refine uR ?_ | refine uE ?_ | refine uB ?_ | refine uA ?_ | refine uD ?_ | refine jC ?_ | refine jN ?_ | refine jS ?_ | refine jR ?_ | refine jT ?_ | refine jB ?_ | refine jX rfl ?_ | refine jY rfl ?_ | refine jK ?_ | refine jD ?_ | refine jE ?_)
        have hXs : ExcP (fun j => j = b8) wfs (setL wfs b8 (0 + 5) [Value.slice ad3s (k + 1 + (n.names.length - k)) cap3s]) := (ExcP.refl (fun j => j = b8) wfs).setL (S := fun j => j = b8) rfl _ _
        have hm8s : MutN (setL wfs b8 (0 + 5) [Value.slice ad3s (k + 1 + (n.names.length - k)) cap3s]) b8 0 7 := MutN.setL _ _ _ hm8fs
        have hc8s := ((hc8.ext hR3s).setAt (x := Value.slice ad3s (k + 1 + (n.names.length - k)) cap3s) (hm8fs.sub (k := 5) (m := 1) (by omega)) (by simp))
        have hsr := hR3s.size
        have hc3s := (hc3.ext hR3s).exc (by omega) hXs (fun e => h38 e)
        have hm6s := (hm6.ext hR3s).exc (by omega) hXs (fun e => h68 e)
        have hxs : Vc.Ext w (setL wfs b8 (0 + 5) [Value.slice ad3s (k + 1 + (n.names.length - k)) cap3s]) := (hxr.trans hR3s).trans' (hXs.below (by have := hxr.size; omega) fun j hj e => by omega)
        have hBs := hB4s.exc (hi' := (setL wfs b8 (0 + 5) [Value.slice ad3s (k + 1 + (n.names.length - k)) cap3s]).heap.size) hXs (fun _ e => by omega) (Nat.le_refl _) (by rw [setL_size]; exact Nat.le_refl _)
        have hwl : wfs.heap.size ≤ (setL wfs b8 (0 + 5) [Value.slice ad3s (k + 1 + (n.names.length - k)) cap3s]).heap.size := by rw [setL_size]; exact Nat.le_refl _
        generalize (setL wfs b8 (0 + 5) [Value.slice ad3s (k + 1 + (n.names.length - k)) cap3s]) = ws at hm8s hc8s hc3s hm6s hxs hBs hwl hXs ⊢
        have hxr0 := hxs
        refine WpC.drawE (.st 1 (.st 2 (.st 3 (.st 4 (.st 6 (.st 9 (.st 10 (.st 11 (.st 12 (.ef 0 (.ef 5 (.ef 7 (.ef 8 (.ef 13 (.st 14 (.ef 15 .done .done)) .done) .done) .done) (.ef 7 (.ef 5 (.ef 8 (.ef 13 (.st 14 (.ef 15 .done .done)) .done) .done) .done) .done)) (.ef 7 (.ef 0 (.ef 5 (.ef 8 (.ef 13 (.st 14 (.ef 15 .done .done)) .done) .done) .done) .done) .done))))))))))) [(0, .ef), (3, .mv), (5, .ef), (6, .mv), (7, .ef), (8, .ef), (11, .mv), (13, .ef), (15, .br)] (by kernel_rfl) ?_
        repeat (first | refine uM ?_ | refine uR ?_ | refine uE ?_ | refine uB ?_ | refine uA ?_ | refine uD ?_ | refine jC ?_ | refine jN ?_ | refine jS ?_ | refine jR ?_ | refine jT ?_ | refine jB ?_ | refine jX rfl ?_ | refine jY rfl ?_ | refine jK ?_ | refine jD ?_ | refine jE ?_)
        refine Ld.mk (hc3s.out 6 _ rfl) ?_
        repeat (first | refine uM ?_ | refine uR ?_ | refine uE ?_ | refine uB ?_ | refine uA ?_ | refine uD ?_ | refine jC ?_ | refine jN ?_ | refine jS ?_ | refine jR ?_ | refine jT ?_ | refine jB ?_ | refine jX rfl ?_ | refine jY rfl ?_ | refine jK ?_ | refine jD ?_ | refine jE ?_)
        refine ⟨k, rfl, by omega, ?_⟩
        repeat (first | refine uM ?_ | refine uR ?_ | refine uE ?_ | refine uB ?_ | refine uA ?_ | refine uD ?_ | refine jC ?_ | refine jN ?_ | refine jS ?_ | refine jR ?_ | refine jT ?_ | refine jB ?_ | refine jX rfl ?_ | refine jY rfl ?_ | refine jK ?_ | refine jD ?_ | refine jE ?_)
        refine Ld.mk (hc3s.out 6 _ rfl) ?_
        repeat (first | refine uM ?_ | refine uR ?_ | refine uE ?_ | refine uB ?_ | refine uA ?_ | refine uD ?_ | refine jC ?_ | refine jN ?_ | refine jS ?_ | refine jR ?_ | refine jT ?_ | refine jB ?_ | refine jX rfl ?_ | refine jY rfl ?_ | refine jK ?_ | refine jD ?_ | refine jE ?_)
        refine ⟨k, rfl, by omega, by omega, ?_⟩
        repeat (first | refine uM ?_ | refine uR ?_ | refine uE ?_ | refine uB ?_ | refine uA ?_ | refine uD ?_ | refine jC ?_ | refine jN ?_ | refine jS ?_ | refine jR ?_ | refine jT ?_ | refine jB ?_ | refine jX rfl ?_ | refine jY rfl ?_ | refine jK ?_ | refine jD ?_ | refine jE ?_)
        have hRi := Vc.Ext.refl ws
        refine WpE.ef2 (by exact rfl) (by exact rfl) ?_ ?_
        · skip
          refine Made.mk fun g0i wq hq _ _ _ _ => ?_
          have hRi := hRi.trans hq
          refine ⟨Keep.ext hRi, ?_⟩
          repeat (first | refine uM ?_ | refine uR ?_ | refine uE ?_ | refine uB ?_ | refine uA ?_ | refine uD ?_ | refine jC ?_ | refine jN ?_ | refine jS ?_ | refine jR ?_ | refine jT ?_ | refine jB ?_ | refine jX rfl ?_ | refine jY rfl ?_ | refine jK ?_ | refine jD ?_ | refine jE ?_)
          refine WpE.ef2 (by exact rfl) (by exact rfl) ?_ ?_
          · skip
            refine AppV.copyH (lo := ws.heap.size) (xs := (ints n.kids).take k) trivial ((Row1.takeV (k := k) (xs := ints n.kids) hN.2 (by omega)).ext (hxs.trans hRi)) (fun c hc => (ints_one n.kids) c (List.mem_of_mem_take hc)) (by omega) rfl hRi.size (fun v1i wq g1i hB1i hq hg1 => ?_)
            obtain ⟨ad1i, cap1i, rfl, _⟩ := id hB1i
            have hRi := hRi.trans hq
            refine ⟨Keep.ext hRi, ?_⟩
            repeat (first | refine uM ?_ | refine uR ?_ | refine uE ?_ | refine uB ?_ | refine uA ?_ | refine uD ?_ | refine jC ?_ | refine jN ?_ | refine jS ?_ | refine jR ?_ | refine jT ?_ | refine jB ?_ | refine jX rfl ?_ | refine jY rfl ?_ | refine jK ?_ | refine jD ?_ | refine jE ?_)
            refine Made.mk fun gli wq hq _ _ hlc _ => ?_
            have hRi := hRi.trans hq
            have hsrci : CellsAt wq gli 0 [(.int .i64 kid : Value)] := CellsAt.of_block hlc (fun i v hi => by simpa using hi)
            have hB1i := hB1i.ext hq hq.size
            refine ⟨Keep.ext hRi, ?_⟩
            repeat (first | refine uM ?_ | refine uR ?_ | refine uE ?_ | refine uB ?_ | refine uA ?_ | refine uD ?_ | refine jC ?_ | refine jN ?_ | refine jS ?_ | refine jR ?_ | refine jT ?_ | refine jB ?_ | refine jX rfl ?_ | refine jY rfl ?_ | refine jK ?_ | refine jD ?_ | refine jE ?_)
            refine AppV.bufS hB1i (by omega) hsrci rfl (by simp [Value.oneCell']) (fun _ => trivial) (by omega) (by omega) rfl hRi.size (Nat.le_refl _) (fun v2i wq g2i hB2i hc2i hw2i => ?_)
            obtain ⟨ad2i, cap2i, rfl, _⟩ := id hB2i
            have hR2i : Vc.Ext ws wq := by
              rcases hw2i with ⟨e, e0, rfl⟩ | ⟨_, hq⟩
              · exact hRi.trans' (below_setL (Below.refl _ _) (hB1i.blk e0).1 _ _)
              · exact hRi.trans hq
            have hgB2i := (hB2i.blk hc2i).1
            refine ⟨Keep.ext hR2i, ?_⟩
            repeat (first | refine uM ?_ | refine uR ?_ | refine uE ?_ | refine uB ?_ | refine uA ?_ | refine uD ?_ | refine jC ?_ | refine jN ?_ | refine jS ?_ | refine jR ?_ | refine jT ?_ | refine jB ?_ | refine jX rfl ?_ | refine jY rfl ?_ | refine jK ?_ | refine jD ?_ | refine jE ?_)
            refine AppV.bufR (news := (ints n.kids).drop k) hB2i hc2i ((Row1.dropV (k := k) (xs := ints n.kids) hN.2 (by omega)).ext (hxs.trans hR2i)) (fun c hc => (ints_one n.kids) c (List.mem_of_mem_drop hc)) trivial (by omega) (by omega) rfl hR2i.size (Nat.le_refl _) (fun v3i wfi g3i hB3i hc3s' hw3i => ?_)
            obtain ⟨ad3i, cap3i, rfl, _⟩ := id hB3i
            have hR3i : Vc.Ext ws wfi := by
              rcases hw3i with ⟨e, rfl⟩ | ⟨_, hq⟩
              · exact hR2i.trans' (below_setL (Below.refl _ _) hgB2i _ _)
              · exact hR2i.trans hq
            have hB4i : BufS ws.heap.size wfi.heap.size wfi (.slice ad3i (k + 1 + (n.kids.length - k)) cap3i) (k + 1 + (n.kids.length - k)) 1 (ints (n.kids.take k ++ kid :: n.kids.drop k)) g3i := by
              have e : ints (n.kids.take k ++ kid :: n.kids.drop k) = (ints n.kids).take k ++ [(.int .i64 kid : Value)] ++ (ints n.kids).drop k := by simp [List.map_append, List.map_take, List.map_drop]
              rw [e]; exact hB3i
            have hgBi := hB3i.blk hc3s'
            refine ⟨Keep.ext hR3i, ?_⟩
            repeat (first | refine uM ?_ | refine uR ?_ | refine uE ?_ | refine uB ?_ | refine uA ?_ | refine uD ?_ | refine jC ?_ | refine jN ?_ | refine jS ?_ | refine jR ?_ | refine jT ?_ | refine jB ?_ | refine jX rfl ?_ | refine jY rfl ?_ | refine jK ?_ | refine jD ?_ | refine jE ?_)
            have hm8fi := hm8s.ext hR3i
            refine ⟨by have := hm8fi.sub (k := 6) (m := 1) (by omega); rwa [Nat.zero_add] at this, trivial, rfl, by simp [Value.oneCell'], ?_⟩
            repeat (first | refine uM ?_ | refine uR ?_ | refine uE ?_ | refine uB ?_ | refine uA ?_ | refine uD ?_ | refine jC ?_ | refine jN ?_ | refine jS ?_ | refine jR ?_ | refine jT ?_ | refine jB ?_ | refine jX rfl ?_ | refine jY rfl ?_ | refine jK ?_ | refine jD ?_ | refine jE ?_)
            have hXi : ExcP (fun j => j = b8) wfi (setL wfi b8 (0 + 6) [Value.slice ad3i (k + 1 + (n.kids.length - k)) cap3i]) := (ExcP.refl (fun j => j = b8) wfi).setL (S := fun j => j = b8) rfl _ _
            have hsi := hR3i.size
            have hc8i := ((hc8s.ext hR3i).setAt (x := Value.slice ad3i (k + 1 + (n.kids.length - k)) cap3i) (hm8fi.sub (k := 6) (m := 1) (by omega)) (by simp))
            have hm6i := (hm6s.ext hR3i).exc (by omega) hXi (fun e => h68 e)
            have hxi : Vc.Ext w (setL wfi b8 (0 + 6) [Value.slice ad3i (k + 1 + (n.kids.length - k)) cap3i]) := (hxs.trans hR3i).trans' (hXi.below (by have := hxr.size; omega) fun j hj e => by omega)
            have hBn := ((hBs.ext (hi' := wfi.heap.size) hR3i hsi).exc (hi' := (setL wfi b8 (0 + 6) [Value.slice ad3i (k + 1 + (n.kids.length - k)) cap3i]).heap.size) hXi (fun _ e => by omega) (Nat.le_refl _) (by rw [setL_size]; exact Nat.le_refl _))
            have hBi := hB4i.exc (hi' := (setL wfi b8 (0 + 6) [Value.slice ad3i (k + 1 + (n.kids.length - k)) cap3i]).heap.size) hXi (fun _ e => by omega) (Nat.le_refl _) (by rw [setL_size]; exact Nat.le_refl _)
            have hwi : wfi.heap.size ≤ (setL wfi b8 (0 + 6) [Value.slice ad3i (k + 1 + (n.kids.length - k)) cap3i]).heap.size := by rw [setL_size]; exact Nat.le_refl _
            generalize (setL wfi b8 (0 + 6) [Value.slice ad3i (k + 1 + (n.kids.length - k)) cap3i]) = wt at hc8i hm6i hxi hBn hBi hwi hXi ⊢
            refine LdN.mk hc8i rfl ?_
            repeat (first | refine jC ?_ | refine jN ?_ | refine jS ?_ | refine jR ?_ | refine jT ?_ | refine jB ?_ | refine jX rfl ?_ | refine jY rfl ?_ | refine jK ?_ | refine jD ?_ | refine jE ?_)
            refine ⟨hm6i, trivial, rfl, by simp [Value.oneCell'], ?_⟩
            repeat (first | refine jC ?_ | refine jN ?_ | refine jS ?_ | refine jR ?_ | refine jT ?_ | refine jB ?_ | refine jX rfl ?_ | refine jY rfl ?_ | refine jK ?_ | refine jD ?_ | refine jE ?_)
            have hXt : ExcP (fun j => j = b6) wt (setL wt b6 0 _) := (ExcP.refl (fun j => j = b6) wt).setL (S := fun j => j = b6) rfl (n.cells (Value.slice ad3s (k + 1 + (n.names.length - k)) cap3s) (Value.slice ad3i (k + 1 + (n.kids.length - k)) cap3i)) 0
            refine LdN.mk (CellsAt.setL_in (l := n.cells (Value.slice ad3s (k + 1 + (n.names.length - k)) cap3s) (Value.slice ad3i (k + 1 + (n.kids.length - k)) cap3i)) hm6i) rfl ?_
            repeat (first | refine jC ?_ | refine jN ?_ | refine jS ?_ | refine jR ?_ | refine jT ?_ | refine jB ?_ | refine jX rfl ?_ | refine jY rfl ?_ | refine jK ?_ | refine jD ?_ | refine jE ?_)
            have hput : n.put x kid = { n with names := n.names.take k ++ x :: n.names.drop k, kids := n.kids.take k ++ kid :: n.kids.drop k } := by rw [hg]; rfl
            have hl1 : (n.put x kid).names.length = k + 1 + (n.names.length - k) := by
              rw [hput]; simp only [List.length_append, List.length_cons, List.length_take, List.length_drop]; omega
            have hl2 : (n.put x kid).kids.length = k + 1 + (n.kids.length - k) := by
              rw [hput]; simp only [List.length_append, List.length_cons, List.length_take, List.length_drop]; omega
            have hsx := hxr.size
            refine EndV.mk fun w' hw' => ⟨_, rfl, ⟨Value.slice ad3s (k + 1 + (n.names.length - k)) cap3s, Value.slice ad3i (k + 1 + (n.kids.length - k)) cap3i, g3s, g3i, rfl, ?_, ?_, by omega⟩, (hxi.trans' (hXt.below (by omega) fun j hj e => by omega)).trans hw'⟩
            · rw [hl1, hput]
              exact ((hBn.exc (hi' := (setL wt b6 0 (n.cells (Value.slice ad3s (k + 1 + (n.names.length - k)) cap3s) (Value.slice ad3i (k + 1 + (n.kids.length - k)) cap3i))).heap.size) hXt (fun _ e => by omega) (Nat.le_refl _) hXt.size).ext hw' hw'.size).low (by omega)
            · rw [hl2, hput]
              exact ((hBi.exc (hi' := (setL wt b6 0 (n.cells (Value.slice ad3s (k + 1 + (n.names.length - k)) cap3s) (Value.slice ad3i (k + 1 + (n.kids.length - k)) cap3i))).heap.size) hXt (fun _ e => by omega) (Nat.le_refl _) hXt.size).ext hw' hw'.size).low (by omega)
          · refine WpE.ef (by exact rfl) (by exact rfl) ?_
            refine Made.mk fun gli wq hq _ _ hlc _ => ?_
            have hRi := hRi.trans hq
            have hsrci : CellsAt wq gli 0 [(.int .i64 kid : Value)] := CellsAt.of_block hlc (fun i v hi => by simpa using hi)
            refine ⟨Keep.ext hRi, ?_⟩
            repeat (first | refine uM ?_ | refine uR ?_ | refine uE ?_ | refine uB ?_ | refine uA ?_ | refine uD ?_ | refine jC ?_ | refine jN ?_ | refine jS ?_ | refine jR ?_ | refine jT ?_ | refine jB ?_ | refine jX rfl ?_ | refine jY rfl ?_ | refine jK ?_ | refine jD ?_ | refine jE ?_)
            refine AppV.copyH (lo := ws.heap.size) (xs := (ints n.kids).take k) trivial ((Row1.takeV (k := k) (xs := ints n.kids) hN.2 (by omega)).ext (hxs.trans hRi)) (fun c hc => (ints_one n.kids) c (List.mem_of_mem_take hc)) (by omega) rfl hRi.size (fun v1i wq g1i hB1i hq hg1 => ?_)
            obtain ⟨ad1i, cap1i, rfl, _⟩ := id hB1i
            have hRi := hRi.trans hq
            have hsrci := hsrci.ext hq
            refine ⟨Keep.ext hRi, ?_⟩
            repeat (first | refine uM ?_ | refine uR ?_ | refine uE ?_ | refine uB ?_ | refine uA ?_ | refine uD ?_ | refine jC ?_ | refine jN ?_ | refine jS ?_ | refine jR ?_ | refine jT ?_ | refine jB ?_ | refine jX rfl ?_ | refine jY rfl ?_ | refine jK ?_ | refine jD ?_ | refine jE ?_)
            refine AppV.bufS hB1i (by omega) hsrci rfl (by simp [Value.oneCell']) (fun _ => trivial) (by omega) (by omega) rfl hRi.size (Nat.le_refl _) (fun v2i wq g2i hB2i hc2i hw2i => ?_)
            obtain ⟨ad2i, cap2i, rfl, _⟩ := id hB2i
            have hR2i : Vc.Ext ws wq := by
              rcases hw2i with ⟨e, e0, rfl⟩ | ⟨_, hq⟩
              · exact hRi.trans' (below_setL (Below.refl _ _) (hB1i.blk e0).1 _ _)
              · exact hRi.trans hq
            have hgB2i := (hB2i.blk hc2i).1
            refine ⟨Keep.ext hR2i, ?_⟩
            repeat (first | refine uM ?_ | refine uR ?_ | refine uE ?_ | refine uB ?_ | refine uA ?_ | refine uD ?_ | refine jC ?_ | refine jN ?_ | refine jS ?_ | refine jR ?_ | refine jT ?_ | refine jB ?_ | refine jX rfl ?_ | refine jY rfl ?_ | refine jK ?_ | refine jD ?_ | refine jE ?_)
            refine AppV.bufR (news := (ints n.kids).drop k) hB2i hc2i ((Row1.dropV (k := k) (xs := ints n.kids) hN.2 (by omega)).ext (hxs.trans hR2i)) (fun c hc => (ints_one n.kids) c (List.mem_of_mem_drop hc)) trivial (by omega) (by omega) rfl hR2i.size (Nat.le_refl _) (fun v3i wfi g3i hB3i hc3s' hw3i => ?_)
            obtain ⟨ad3i, cap3i, rfl, _⟩ := id hB3i
            have hR3i : Vc.Ext ws wfi := by
              rcases hw3i with ⟨e, rfl⟩ | ⟨_, hq⟩
              · exact hR2i.trans' (below_setL (Below.refl _ _) hgB2i _ _)
              · exact hR2i.trans hq
            have hB4i : BufS ws.heap.size wfi.heap.size wfi (.slice ad3i (k + 1 + (n.kids.length - k)) cap3i) (k + 1 + (n.kids.length - k)) 1 (ints (n.kids.take k ++ kid :: n.kids.drop k)) g3i := by
              have e : ints (n.kids.take k ++ kid :: n.kids.drop k) = (ints n.kids).take k ++ [(.int .i64 kid : Value)] ++ (ints n.kids).drop k := by simp [List.map_append, List.map_take, List.map_drop]
              rw [e]; exact hB3i
            have hgBi := hB3i.blk hc3s'
            refine ⟨Keep.ext hR3i, ?_⟩
            repeat (first | refine uM ?_ | refine uR ?_ | refine uE ?_ | refine uB ?_ | refine uA ?_ | refine uD ?_ | refine jC ?_ | refine jN ?_ | refine jS ?_ | refine jR ?_ | refine jT ?_ | refine jB ?_ | refine jX rfl ?_ | refine jY rfl ?_ | refine jK ?_ | refine jD ?_ | refine jE ?_)
            have hm8fi := hm8s.ext hR3i
            refine ⟨by have := hm8fi.sub (k := 6) (m := 1) (by omega); rwa [Nat.zero_add] at this, trivial, rfl, by simp [Value.oneCell'], ?_⟩
            repeat (first | refine uM ?_ | refine uR ?_ | refine uE ?_ | refine uB ?_ | refine uA ?_ | refine uD ?_ | refine jC ?_ | refine jN ?_ | refine jS ?_ | refine jR ?_ | refine jT ?_ | refine jB ?_ | refine jX rfl ?_ | refine jY rfl ?_ | refine jK ?_ | refine jD ?_ | refine jE ?_)
            have hXi : ExcP (fun j => j = b8) wfi (setL wfi b8 (0 + 6) [Value.slice ad3i (k + 1 + (n.kids.length - k)) cap3i]) := (ExcP.refl (fun j => j = b8) wfi).setL (S := fun j => j = b8) rfl _ _
            have hsi := hR3i.size
            have hc8i := ((hc8s.ext hR3i).setAt (x := Value.slice ad3i (k + 1 + (n.kids.length - k)) cap3i) (hm8fi.sub (k := 6) (m := 1) (by omega)) (by simp))
            have hm6i := (hm6s.ext hR3i).exc (by omega) hXi (fun e => h68 e)
            have hxi : Vc.Ext w (setL wfi b8 (0 + 6) [Value.slice ad3i (k + 1 + (n.kids.length - k)) cap3i]) := (hxs.trans hR3i).trans' (hXi.below (by have := hxr.size; omega) fun j hj e => by omega)
            have hBn := ((hBs.ext (hi' := wfi.heap.size) hR3i hsi).exc (hi' := (setL wfi b8 (0 + 6) [Value.slice ad3i (k + 1 + (n.kids.length - k)) cap3i]).heap.size) hXi (fun _ e => by omega) (Nat.le_refl _) (by rw [setL_size]; exact Nat.le_refl _))
            have hBi := hB4i.exc (hi' := (setL wfi b8 (0 + 6) [Value.slice ad3i (k + 1 + (n.kids.length - k)) cap3i]).heap.size) hXi (fun _ e => by omega) (Nat.le_refl _) (by rw [setL_size]; exact Nat.le_refl _)
            have hwi : wfi.heap.size ≤ (setL wfi b8 (0 + 6) [Value.slice ad3i (k + 1 + (n.kids.length - k)) cap3i]).heap.size := by rw [setL_size]; exact Nat.le_refl _
            generalize (setL wfi b8 (0 + 6) [Value.slice ad3i (k + 1 + (n.kids.length - k)) cap3i]) = wt at hc8i hm6i hxi hBn hBi hwi hXi ⊢
            refine LdN.mk hc8i rfl ?_
            repeat (first | refine jC ?_ | refine jN ?_ | refine jS ?_ | refine jR ?_ | refine jT ?_ | refine jB ?_ | refine jX rfl ?_ | refine jY rfl ?_ | refine jK ?_ | refine jD ?_ | refine jE ?_)
            refine ⟨hm6i, trivial, rfl, by simp [Value.oneCell'], ?_⟩
            repeat (first | refine jC ?_ | refine jN ?_ | refine jS ?_ | refine jR ?_ | refine jT ?_ | refine jB ?_ | refine jX rfl ?_ | refine jY rfl ?_ | refine jK ?_ | refine jD ?_ | refine jE ?_)
            have hXt : ExcP (fun j => j = b6) wt (setL wt b6 0 _) := (ExcP.refl (fun j => j = b6) wt).setL (S := fun j => j = b6) rfl (n.cells (Value.slice ad3s (k + 1 + (n.names.length - k)) cap3s) (Value.slice ad3i (k + 1 + (n.kids.length - k)) cap3i)) 0
            refine LdN.mk (CellsAt.setL_in (l := n.cells (Value.slice ad3s (k + 1 + (n.names.length - k)) cap3s) (Value.slice ad3i (k + 1 + (n.kids.length - k)) cap3i)) hm6i) rfl ?_
            repeat (first | refine jC ?_ | refine jN ?_ | refine jS ?_ | refine jR ?_ | refine jT ?_ | refine jB ?_ | refine jX rfl ?_ | refine jY rfl ?_ | refine jK ?_ | refine jD ?_ | refine jE ?_)
            have hput : n.put x kid = { n with names := n.names.take k ++ x :: n.names.drop k, kids := n.kids.take k ++ kid :: n.kids.drop k } := by rw [hg]; rfl
            have hl1 : (n.put x kid).names.length = k + 1 + (n.names.length - k) := by
              rw [hput]; simp only [List.length_append, List.length_cons, List.length_take, List.length_drop]; omega
            have hl2 : (n.put x kid).kids.length = k + 1 + (n.kids.length - k) := by
              rw [hput]; simp only [List.length_append, List.length_cons, List.length_take, List.length_drop]; omega
            have hsx := hxr.size
            refine EndV.mk fun w' hw' => ⟨_, rfl, ⟨Value.slice ad3s (k + 1 + (n.names.length - k)) cap3s, Value.slice ad3i (k + 1 + (n.kids.length - k)) cap3i, g3s, g3i, rfl, ?_, ?_, by omega⟩, (hxi.trans' (hXt.below (by omega) fun j hj e => by omega)).trans hw'⟩
            · rw [hl1, hput]
              exact ((hBn.exc (hi' := (setL wt b6 0 (n.cells (Value.slice ad3s (k + 1 + (n.names.length - k)) cap3s) (Value.slice ad3i (k + 1 + (n.kids.length - k)) cap3i))).heap.size) hXt (fun _ e => by omega) (Nat.le_refl _) hXt.size).ext hw' hw'.size).low (by omega)
            · rw [hl2, hput]
              exact ((hBi.exc (hi' := (setL wt b6 0 (n.cells (Value.slice ad3s (k + 1 + (n.names.length - k)) cap3s) (Value.slice ad3i (k + 1 + (n.kids.length - k)) cap3i))).heap.size) hXt (fun _ e => by omega) (Nat.le_refl _) hXt.size).ext hw' hw'.size).low (by omega)
        · refine WpE.ef (by exact rfl) (by exact rfl) ?_
          refine Made.mk fun gli wq hq _ _ hlc _ => ?_
          have hRi := hRi.trans hq
          have hsrci : CellsAt wq gli 0 [(.int .i64 kid : Value)] := CellsAt.of_block hlc (fun i v hi => by simpa using hi)
          refine ⟨Keep.ext hRi, ?_⟩
          repeat (first | refine uM ?_ | refine uR ?_ | refine uE ?_ | refine uB ?_ | refine uA ?_ | refine uD ?_ | refine jC ?_ | refine jN ?_ | refine jS ?_ | refine jR ?_ | refine jT ?_ | refine jB ?_ | refine jX rfl ?_ | refine jY rfl ?_ | refine jK ?_ | refine jD ?_ | refine jE ?_)
          refine Made.mk fun g0i wq hq _ _ _ _ => ?_
          have hRi := hRi.trans hq
          have hsrci := hsrci.ext hq
          refine ⟨Keep.ext hRi, ?_⟩
          repeat (first | refine uM ?_ | refine uR ?_ | refine uE ?_ | refine uB ?_ | refine uA ?_ | refine uD ?_ | refine jC ?_ | refine jN ?_ | refine jS ?_ | refine jR ?_ | refine jT ?_ | refine jB ?_ | refine jX rfl ?_ | refine jY rfl ?_ | refine jK ?_ | refine jD ?_ | refine jE ?_)
          refine AppV.copyH (lo := ws.heap.size) (xs := (ints n.kids).take k) trivial ((Row1.takeV (k := k) (xs := ints n.kids) hN.2 (by omega)).ext (hxs.trans hRi)) (fun c hc => (ints_one n.kids) c (List.mem_of_mem_take hc)) (by omega) rfl hRi.size (fun v1i wq g1i hB1i hq hg1 => ?_)
          obtain ⟨ad1i, cap1i, rfl, _⟩ := id hB1i
          have hRi := hRi.trans hq
          have hsrci := hsrci.ext hq
          refine ⟨Keep.ext hRi, ?_⟩
          repeat (first | refine uM ?_ | refine uR ?_ | refine uE ?_ | refine uB ?_ | refine uA ?_ | refine uD ?_ | refine jC ?_ | refine jN ?_ | refine jS ?_ | refine jR ?_ | refine jT ?_ | refine jB ?_ | refine jX rfl ?_ | refine jY rfl ?_ | refine jK ?_ | refine jD ?_ | refine jE ?_)
          refine AppV.bufS hB1i (by omega) hsrci rfl (by simp [Value.oneCell']) (fun _ => trivial) (by omega) (by omega) rfl hRi.size (Nat.le_refl _) (fun v2i wq g2i hB2i hc2i hw2i => ?_)
          obtain ⟨ad2i, cap2i, rfl, _⟩ := id hB2i
          have hR2i : Vc.Ext ws wq := by
            rcases hw2i with ⟨e, e0, rfl⟩ | ⟨_, hq⟩
            · exact hRi.trans' (below_setL (Below.refl _ _) (hB1i.blk e0).1 _ _)
            · exact hRi.trans hq
          have hgB2i := (hB2i.blk hc2i).1
          refine ⟨Keep.ext hR2i, ?_⟩
          repeat (first | refine uM ?_ | refine uR ?_ | refine uE ?_ | refine uB ?_ | refine uA ?_ | refine uD ?_ | refine jC ?_ | refine jN ?_ | refine jS ?_ | refine jR ?_ | refine jT ?_ | refine jB ?_ | refine jX rfl ?_ | refine jY rfl ?_ | refine jK ?_ | refine jD ?_ | refine jE ?_)
          refine AppV.bufR (news := (ints n.kids).drop k) hB2i hc2i ((Row1.dropV (k := k) (xs := ints n.kids) hN.2 (by omega)).ext (hxs.trans hR2i)) (fun c hc => (ints_one n.kids) c (List.mem_of_mem_drop hc)) trivial (by omega) (by omega) rfl hR2i.size (Nat.le_refl _) (fun v3i wfi g3i hB3i hc3s' hw3i => ?_)
          obtain ⟨ad3i, cap3i, rfl, _⟩ := id hB3i
          have hR3i : Vc.Ext ws wfi := by
            rcases hw3i with ⟨e, rfl⟩ | ⟨_, hq⟩
            · exact hR2i.trans' (below_setL (Below.refl _ _) hgB2i _ _)
            · exact hR2i.trans hq
          have hB4i : BufS ws.heap.size wfi.heap.size wfi (.slice ad3i (k + 1 + (n.kids.length - k)) cap3i) (k + 1 + (n.kids.length - k)) 1 (ints (n.kids.take k ++ kid :: n.kids.drop k)) g3i := by
            have e : ints (n.kids.take k ++ kid :: n.kids.drop k) = (ints n.kids).take k ++ [(.int .i64 kid : Value)] ++ (ints n.kids).drop k := by simp [List.map_append, List.map_take, List.map_drop]
            rw [e]; exact hB3i
          have hgBi := hB3i.blk hc3s'
          refine ⟨Keep.ext hR3i, ?_⟩
          repeat (first | refine uM ?_ | refine uR ?_ | refine uE ?_ | refine uB ?_ | refine uA ?_ | refine uD ?_ | refine jC ?_ | refine jN ?_ | refine jS ?_ | refine jR ?_ | refine jT ?_ | refine jB ?_ | refine jX rfl ?_ | refine jY rfl ?_ | refine jK ?_ | refine jD ?_ | refine jE ?_)
          have hm8fi := hm8s.ext hR3i
          refine ⟨by have := hm8fi.sub (k := 6) (m := 1) (by omega); rwa [Nat.zero_add] at this, trivial, rfl, by simp [Value.oneCell'], ?_⟩
          repeat (first | refine uM ?_ | refine uR ?_ | refine uE ?_ | refine uB ?_ | refine uA ?_ | refine uD ?_ | refine jC ?_ | refine jN ?_ | refine jS ?_ | refine jR ?_ | refine jT ?_ | refine jB ?_ | refine jX rfl ?_ | refine jY rfl ?_ | refine jK ?_ | refine jD ?_ | refine jE ?_)
          have hXi : ExcP (fun j => j = b8) wfi (setL wfi b8 (0 + 6) [Value.slice ad3i (k + 1 + (n.kids.length - k)) cap3i]) := (ExcP.refl (fun j => j = b8) wfi).setL (S := fun j => j = b8) rfl _ _
          have hsi := hR3i.size
          have hc8i := ((hc8s.ext hR3i).setAt (x := Value.slice ad3i (k + 1 + (n.kids.length - k)) cap3i) (hm8fi.sub (k := 6) (m := 1) (by omega)) (by simp))
          have hm6i := (hm6s.ext hR3i).exc (by omega) hXi (fun e => h68 e)
          have hxi : Vc.Ext w (setL wfi b8 (0 + 6) [Value.slice ad3i (k + 1 + (n.kids.length - k)) cap3i]) := (hxs.trans hR3i).trans' (hXi.below (by have := hxr.size; omega) fun j hj e => by omega)
          have hBn := ((hBs.ext (hi' := wfi.heap.size) hR3i hsi).exc (hi' := (setL wfi b8 (0 + 6) [Value.slice ad3i (k + 1 + (n.kids.length - k)) cap3i]).heap.size) hXi (fun _ e => by omega) (Nat.le_refl _) (by rw [setL_size]; exact Nat.le_refl _))
          have hBi := hB4i.exc (hi' := (setL wfi b8 (0 + 6) [Value.slice ad3i (k + 1 + (n.kids.length - k)) cap3i]).heap.size) hXi (fun _ e => by omega) (Nat.le_refl _) (by rw [setL_size]; exact Nat.le_refl _)
          have hwi : wfi.heap.size ≤ (setL wfi b8 (0 + 6) [Value.slice ad3i (k + 1 + (n.kids.length - k)) cap3i]).heap.size := by rw [setL_size]; exact Nat.le_refl _
          generalize (setL wfi b8 (0 + 6) [Value.slice ad3i (k + 1 + (n.kids.length - k)) cap3i]) = wt at hc8i hm6i hxi hBn hBi hwi hXi ⊢
          refine LdN.mk hc8i rfl ?_
          repeat (first | refine jC ?_ | refine jN ?_ | refine jS ?_ | refine jR ?_ | refine jT ?_ | refine jB ?_ | refine jX rfl ?_ | refine jY rfl ?_ | refine jK ?_ | refine jD ?_ | refine jE ?_)
          refine ⟨hm6i, trivial, rfl, by simp [Value.oneCell'], ?_⟩
          repeat (first | refine jC ?_ | refine jN ?_ | refine jS ?_ | refine jR ?_ | refine jT ?_ | refine jB ?_ | refine jX rfl ?_ | refine jY rfl ?_ | refine jK ?_ | refine jD ?_ | refine jE ?_)
          have hXt : ExcP (fun j => j = b6) wt (setL wt b6 0 _) := (ExcP.refl (fun j => j = b6) wt).setL (S := fun j => j = b6) rfl (n.cells (Value.slice ad3s (k + 1 + (n.names.length - k)) cap3s) (Value.slice ad3i (k + 1 + (n.kids.length - k)) cap3i)) 0
          refine LdN.mk (CellsAt.setL_in (l := n.cells (Value.slice ad3s (k + 1 + (n.names.length - k)) cap3s) (Value.slice ad3i (k + 1 + (n.kids.length - k)) cap3i)) hm6i) rfl ?_
          repeat (first | refine jC ?_ | refine jN ?_ | refine jS ?_ | refine jR ?_ | refine jT ?_ | refine jB ?_ | refine jX rfl ?_ | refine jY rfl ?_ | refine jK ?_ | refine jD ?_ | refine jE ?_)
          have hput : n.put x kid = { n with names := n.names.take k ++ x :: n.names.drop k, kids := n.kids.take k ++ kid :: n.kids.drop k } := by rw [hg]; rfl
          have hl1 : (n.put x kid).names.length = k + 1 + (n.names.length - k) := by
            rw [hput]; simp only [List.length_append, List.length_cons, List.length_take, List.length_drop]; omega
          have hl2 : (n.put x kid).kids.length = k + 1 + (n.kids.length - k) := by
            rw [hput]; simp only [List.length_append, List.length_cons, List.length_take, List.length_drop]; omega
          have hsx := hxr.size
          refine EndV.mk fun w' hw' => ⟨_, rfl, ⟨Value.slice ad3s (k + 1 + (n.names.length - k)) cap3s, Value.slice ad3i (k + 1 + (n.kids.length - k)) cap3i, g3s, g3i, rfl, ?_, ?_, by omega⟩, (hxi.trans' (hXt.below (by omega) fun j hj e => by omega)).trans hw'⟩
          · rw [hl1, hput]
            exact ((hBn.exc (hi' := (setL wt b6 0 (n.cells (Value.slice ad3s (k + 1 + (n.names.length - k)) cap3s) (Value.slice ad3i (k + 1 + (n.kids.length - k)) cap3i))).heap.size) hXt (fun _ e => by omega) (Nat.le_refl _) hXt.size).ext hw' hw'.size).low (by omega)
          · rw [hl2, hput]
            exact ((hBi.exc (hi' := (setL wt b6 0 (n.cells (Value.slice ad3s (k + 1 + (n.names.length - k)) cap3s) (Value.slice ad3i (k + 1 + (n.kids.length - k)) cap3i))).heap.size) hXt (fun _ e => by omega) (Nat.le_refl _) hXt.size).ext hw' hw'.size).low (by omega)
  · have hke : k = n.names.length := by have := of_decide_eq_false h; omega
    have hg : k = posN n.names x := by
      rw [hke, List.drop_length] at hg
      rw [hke]
      have e : posN [] x = 0 := rfl
      omega
    repeat (first | refine jC ?_ | refine jN ?_ | refine jS ?_ | refine jR ?_ | refine jT ?_ | refine jB ?_ | refine jX rfl ?_ | refine jY rfl ?_ | refine jK ?_ | refine jD ?_ | refine jE ?_)
    intro b8 hb8
    repeat (first | refine jC ?_ | refine jN ?_ | refine jS ?_ | refine jR ?_ | refine jT ?_ | refine jB ?_ | refine jX rfl ?_ | refine jY rfl ?_ | refine jK ?_ | refine jD ?_ | refine jE ?_)
    refine ⟨by assumption, rfl, by simp, by simp [Value.oneCell'], ?_⟩
    repeat (first | refine jC ?_ | refine jN ?_)
    refine WpC.plain (fun wr hxr hO => ?_)
    have hq3 := hO.1 0 _ rfl
    have hq6 := hO.1 1 _ rfl
    have hq8 := hO.1 2 _ rfl
    have h38 : b3 ≠ b8 := fun e => absurd (hO.2 0 2 _ _ rfl rfl e) (by decide)
    have h68 : b6 ≠ b8 := fun e => absurd (hO.2 1 2 _ _ rfl rfl e) (by decide)
    have hc3 : CellsAt wr b3 0 (n.cells (.slice nad n.names.length ncap) (.slice kad n.kids.length kcap)) := CellsAt.of_block hq3 fun i v hi => by simpa using hi
    have hc8 : CellsAt wr b8 0 (n.cells (.slice nad n.names.length ncap) (.slice kad n.kids.length kcap)) := CellsAt.of_block hq8 fun i v hi => by simpa using hi
    have hm8 : MutN wr b8 0 7 := MutN.of_block hq8 (by simp)
    have hm6 : MutN wr b6 0 7 := MutN.of_block hq6 (by simp)
    have hl3 : b3 < wr.heap.size := hc3.lt (by simp)
    have hl8 : b8 < wr.heap.size := hc8.lt (by simp)
    have hl6 : b6 < wr.heap.size := (CellsAt.of_block (o := 0) (m := [.bool false]) hq6 fun i v hi => by cases i <;> simp at hi ⊢; exact hi).lt (by simp)
    repeat (first | refine jC ?_ | refine jN ?_ | refine jS ?_ | refine jR ?_ | refine jT ?_ | refine jB ?_ | refine jX rfl ?_ | refine jY rfl ?_ | refine jK ?_ | refine jD ?_ | refine jE ?_)
    have hxr0 := hxr
    refine WpC.drawE (.st 1 (.st 2 (.st 3 (.st 4 (.st 6 (.st 9 (.st 10 (.st 11 (.st 12 (.ef 0 (.ef 5 (.ef 7 (.ef 8 (.ef 13 (.st 14 (.ef 15 .done .done)) .done) .done) .done) (.ef 7 (.ef 5 (.ef 8 (.ef 13 (.st 14 (.ef 15 .done .done)) .done) .done) .done) .done)) (.ef 7 (.ef 0 (.ef 5 (.ef 8 (.ef 13 (.st 14 (.ef 15 .done .done)) .done) .done) .done) .done) .done))))))))))) [(0, .ef), (3, .mv), (5, .ef), (6, .mv), (7, .ef), (8, .ef), (11, .mv), (13, .ef), (15, .br)] (by kernel_rfl) ?_
    repeat (first | refine uM ?_ | refine uR ?_ | refine uE ?_ | refine uB ?_ | refine uA ?_ | refine uD ?_ | refine jC ?_ | refine jN ?_ | refine jS ?_ | refine jR ?_ | refine jT ?_ | refine jB ?_ | refine jX rfl ?_ | refine jY rfl ?_ | refine jK ?_ | refine jD ?_ | refine jE ?_)
    refine Ld.mk (hc3.out 5 _ rfl) ?_
    repeat (first | refine uM ?_ | refine uR ?_ | refine uE ?_ | refine uB ?_ | refine uA ?_ | refine uD ?_ | refine jC ?_ | refine jN ?_ | refine jS ?_ | refine jR ?_ | refine jT ?_ | refine jB ?_ | refine jX rfl ?_ | refine jY rfl ?_ | refine jK ?_ | refine jD ?_ | refine jE ?_)
    refine ⟨k, rfl, by omega, ?_⟩
    repeat (first | refine uM ?_ | refine uR ?_ | refine uE ?_ | refine uB ?_ | refine uA ?_ | refine uD ?_ | refine jC ?_ | refine jN ?_ | refine jS ?_ | refine jR ?_ | refine jT ?_ | refine jB ?_ | refine jX rfl ?_ | refine jY rfl ?_ | refine jK ?_ | refine jD ?_ | refine jE ?_)
    refine Ld.mk (hc3.out 5 _ rfl) ?_
    repeat (first | refine uM ?_ | refine uR ?_ | refine uE ?_ | refine uB ?_ | refine uA ?_ | refine uD ?_ | refine jC ?_ | refine jN ?_ | refine jS ?_ | refine jR ?_ | refine jT ?_ | refine jB ?_ | refine jX rfl ?_ | refine jY rfl ?_ | refine jK ?_ | refine jD ?_ | refine jE ?_)
    refine ⟨k, rfl, by omega, by omega, ?_⟩
    repeat (first | refine uM ?_ | refine uR ?_ | refine uE ?_ | refine uB ?_ | refine uA ?_ | refine uD ?_ | refine jC ?_ | refine jN ?_ | refine jS ?_ | refine jR ?_ | refine jT ?_ | refine jB ?_ | refine jX rfl ?_ | refine jY rfl ?_ | refine jK ?_ | refine jD ?_ | refine jE ?_)
    have hRs := Vc.Ext.refl wr
    refine WpE.ef2 (by exact rfl) (by exact rfl) ?_ ?_
    · skip
      refine Made.mk fun g0s wq hq _ _ _ _ => ?_
      have hRs := hRs.trans hq
      refine ⟨Keep.ext hRs, ?_⟩
      repeat (first | refine uM ?_ | refine uR ?_ | refine uE ?_ | refine uB ?_ | refine uA ?_ | refine uD ?_ | refine jC ?_ | refine jN ?_ | refine jS ?_ | refine jR ?_ | refine jT ?_ | refine jB ?_ | refine jX rfl ?_ | refine jY rfl ?_ | refine jK ?_ | refine jD ?_ | refine jE ?_)
      refine WpE.ef2 (by exact rfl) (by exact rfl) ?_ ?_
      · skip
        refine AppV.copyH (lo := wr.heap.size) (xs := (strs n.names).take k) trivial ((Row1.takeV (k := k) (xs := strs n.names) hN.1 (by omega)).ext (hxr.trans hRs)) (fun c hc => (strs_one n.names) c (List.mem_of_mem_take hc)) (by omega) rfl hRs.size (fun v1s wq g1s hB1s hq hg1 => ?_)
        obtain ⟨ad1s, cap1s, rfl, _⟩ := id hB1s
        have hRs := hRs.trans hq
        refine ⟨Keep.ext hRs, ?_⟩
        repeat (first | refine uM ?_ | refine uR ?_ | refine uE ?_ | refine uB ?_ | refine uA ?_ | refine uD ?_ | refine jC ?_ | refine jN ?_ | refine jS ?_ | refine jR ?_ | refine jT ?_ | refine jB ?_ | refine jX rfl ?_ | refine jY rfl ?_ | refine jK ?_ | refine jD ?_ | refine jE ?_)
        refine Made.mk fun gls wq hq _ _ hlc _ => ?_
        have hRs := hRs.trans hq
        have hsrcs : CellsAt wq gls 0 [(.string x : Value)] := CellsAt.of_block hlc (fun i v hi => by simpa using hi)
        have hB1s := hB1s.ext hq hq.size
        refine ⟨Keep.ext hRs, ?_⟩
        repeat (first | refine uM ?_ | refine uR ?_ | refine uE ?_ | refine uB ?_ | refine uA ?_ | refine uD ?_ | refine jC ?_ | refine jN ?_ | refine jS ?_ | refine jR ?_ | refine jT ?_ | refine jB ?_ | refine jX rfl ?_ | refine jY rfl ?_ | refine jK ?_ | refine jD ?_ | refine jE ?_)
        refine AppV.bufS hB1s (by omega) hsrcs rfl (by simp [Value.oneCell']) (fun _ => trivial) (by omega) (by omega) rfl hRs.size (Nat.le_refl _) (fun v2s wq g2s hB2s hc2s hw2s => ?_)
        obtain ⟨ad2s, cap2s, rfl, _⟩ := id hB2s
        have hR2s : Vc.Ext wr wq := by
          rcases hw2s with ⟨e, e0, rfl⟩ | ⟨_, hq⟩
          · exact hRs.trans' (below_setL (Below.refl _ _) (hB1s.blk e0).1 _ _)
          · exact hRs.trans hq
        have hgB2s := (hB2s.blk hc2s).1
        refine ⟨Keep.ext hR2s, ?_⟩
        repeat (first | refine uM ?_ | refine uR ?_ | refine uE ?_ | refine uB ?_ | refine uA ?_ | refine uD ?_ | refine jC ?_ | refine jN ?_ | refine jS ?_ | refine jR ?_ | refine jT ?_ | refine jB ?_ | refine jX rfl ?_ | refine jY rfl ?_ | refine jK ?_ | refine jD ?_ | refine jE ?_)
        refine AppV.bufR (news := (strs n.names).drop k) hB2s hc2s ((Row1.dropV (k := k) (xs := strs n.names) hN.1 (by omega)).ext (hxr.trans hR2s)) (fun c hc => (strs_one n.names) c (List.mem_of_mem_drop hc)) trivial (by omega) (by omega) rfl hR2s.size (Nat.le_refl _) (fun v3s wfs g3s hB3s hc3' hw3s => ?_)
        obtain ⟨ad3s, cap3s, rfl, _⟩ := id hB3s
        have hR3s : Vc.Ext wr wfs := by
          rcases hw3s with ⟨e, rfl⟩ | ⟨_, hq⟩
          · exact hR2s.trans' (below_setL (Below.refl _ _) hgB2s _ _)
          · exact hR2s.trans hq
        have hB4s : BufS wr.heap.size wfs.heap.size wfs (.slice ad3s (k + 1 + (n.names.length - k)) cap3s) (k + 1 + (n.names.length - k)) 1 (strs (n.names.take k ++ x :: n.names.drop k)) g3s := by
          have e : strs (n.names.take k ++ x :: n.names.drop k) = (strs n.names).take k ++ [(.string x : Value)] ++ (strs n.names).drop k := by simp [List.map_append, List.map_take, List.map_drop]
          rw [e]; exact hB3s
        have hgBs := hB3s.blk hc3'
        refine ⟨Keep.ext hR3s, ?_⟩
        repeat (first | refine uM ?_ | refine uR ?_ | refine uE ?_ | refine uB ?_ | refine uA ?_ | refine uD ?_ | refine jC ?_ | refine jN ?_ | refine jS ?_ | refine jR ?_ | refine jT ?_ | refine jB ?_ | refine jX rfl ?_ | refine jY rfl ?_ | refine jK ?_ | refine jD ?_ | refine jE ?_)
        have hm8fs := hm8.ext hR3s
        refine ⟨by have := hm8fs.sub (k := 5) (m := 1) (by omega); rwa [Nat.zero_add] at this, trivial, rfl, by simp [Value.oneCell'], ?_⟩
        repeat (first | refine uM ?_ | refine uR ?_ | refine uE ?_ | refine uB ?_ | refine uA ?_ | refine uD ?_ | refine jC ?_ | refine jN ?_ | refine jS ?_ | refine jR ?_ | refine jT ?_ | refine jB ?_ | refine jX rfl ?_ | refine jY rfl ?_ | refine jK ?_ | refine jD ?_ | refine jE ?_)
        have hXs : ExcP (fun j => j = b8) wfs (setL wfs b8 (0 + 5) [Value.slice ad3s (k + 1 + (n.names.length - k)) cap3s]) := (ExcP.refl (fun j => j = b8) wfs).setL (S := fun j => j = b8) rfl _ _
        have hm8s : MutN (setL wfs b8 (0 + 5) [Value.slice ad3s (k + 1 + (n.names.length - k)) cap3s]) b8 0 7 := MutN.setL _ _ _ hm8fs
        have hc8s := ((hc8.ext hR3s).setAt (x := Value.slice ad3s (k + 1 + (n.names.length - k)) cap3s) (hm8fs.sub (k := 5) (m := 1) (by omega)) (by simp))
        have hsr := hR3s.size
        have hc3s := (hc3.ext hR3s).exc (by omega) hXs (fun e => h38 e)
        have hm6s := (hm6.ext hR3s).exc (by omega) hXs (fun e => h68 e)
        have hxs : Vc.Ext w (setL wfs b8 (0 + 5) [Value.slice ad3s (k + 1 + (n.names.length - k)) cap3s]) := (hxr.trans hR3s).trans' (hXs.below (by have := hxr.size; omega) fun j hj e => by omega)
        have hBs := hB4s.exc (hi' := (setL wfs b8 (0 + 5) [Value.slice ad3s (k + 1 + (n.names.length - k)) cap3s]).heap.size) hXs (fun _ e => by omega) (Nat.le_refl _) (by rw [setL_size]; exact Nat.le_refl _)
        have hwl : wfs.heap.size ≤ (setL wfs b8 (0 + 5) [Value.slice ad3s (k + 1 + (n.names.length - k)) cap3s]).heap.size := by rw [setL_size]; exact Nat.le_refl _
        generalize (setL wfs b8 (0 + 5) [Value.slice ad3s (k + 1 + (n.names.length - k)) cap3s]) = ws at hm8s hc8s hc3s hm6s hxs hBs hwl hXs ⊢
        have hxr0 := hxs
        refine WpC.drawE (.st 1 (.st 2 (.st 3 (.st 4 (.st 6 (.st 9 (.st 10 (.st 11 (.st 12 (.ef 0 (.ef 5 (.ef 7 (.ef 8 (.ef 13 (.st 14 (.ef 15 .done .done)) .done) .done) .done) (.ef 7 (.ef 5 (.ef 8 (.ef 13 (.st 14 (.ef 15 .done .done)) .done) .done) .done) .done)) (.ef 7 (.ef 0 (.ef 5 (.ef 8 (.ef 13 (.st 14 (.ef 15 .done .done)) .done) .done) .done) .done) .done))))))))))) [(0, .ef), (3, .mv), (5, .ef), (6, .mv), (7, .ef), (8, .ef), (11, .mv), (13, .ef), (15, .br)] (by kernel_rfl) ?_
        repeat (first | refine uM ?_ | refine uR ?_ | refine uE ?_ | refine uB ?_ | refine uA ?_ | refine uD ?_ | refine jC ?_ | refine jN ?_ | refine jS ?_ | refine jR ?_ | refine jT ?_ | refine jB ?_ | refine jX rfl ?_ | refine jY rfl ?_ | refine jK ?_ | refine jD ?_ | refine jE ?_)
        refine Ld.mk (hc3s.out 6 _ rfl) ?_
        repeat (first | refine uM ?_ | refine uR ?_ | refine uE ?_ | refine uB ?_ | refine uA ?_ | refine uD ?_ | refine jC ?_ | refine jN ?_ | refine jS ?_ | refine jR ?_ | refine jT ?_ | refine jB ?_ | refine jX rfl ?_ | refine jY rfl ?_ | refine jK ?_ | refine jD ?_ | refine jE ?_)
        refine ⟨k, rfl, by omega, ?_⟩
        repeat (first | refine uM ?_ | refine uR ?_ | refine uE ?_ | refine uB ?_ | refine uA ?_ | refine uD ?_ | refine jC ?_ | refine jN ?_ | refine jS ?_ | refine jR ?_ | refine jT ?_ | refine jB ?_ | refine jX rfl ?_ | refine jY rfl ?_ | refine jK ?_ | refine jD ?_ | refine jE ?_)
        refine Ld.mk (hc3s.out 6 _ rfl) ?_
        repeat (first | refine uM ?_ | refine uR ?_ | refine uE ?_ | refine uB ?_ | refine uA ?_ | refine uD ?_ | refine jC ?_ | refine jN ?_ | refine jS ?_ | refine jR ?_ | refine jT ?_ | refine jB ?_ | refine jX rfl ?_ | refine jY rfl ?_ | refine jK ?_ | refine jD ?_ | refine jE ?_)
        refine ⟨k, rfl, by omega, by omega, ?_⟩
        repeat (first | refine uM ?_ | refine uR ?_ | refine uE ?_ | refine uB ?_ | refine uA ?_ | refine uD ?_ | refine jC ?_ | refine jN ?_ | refine jS ?_ | refine jR ?_ | refine jT ?_ | refine jB ?_ | refine jX rfl ?_ | refine jY rfl ?_ | refine jK ?_ | refine jD ?_ | refine jE ?_)
        have hRi := Vc.Ext.refl ws
        refine WpE.ef2 (by exact rfl) (by exact rfl) ?_ ?_
        · skip
          refine Made.mk fun g0i wq hq _ _ _ _ => ?_
          have hRi := hRi.trans hq
          refine ⟨Keep.ext hRi, ?_⟩
          repeat (first | refine uM ?_ | refine uR ?_ | refine uE ?_ | refine uB ?_ | refine uA ?_ | refine uD ?_ | refine jC ?_ | refine jN ?_ | refine jS ?_ | refine jR ?_ | refine jT ?_ | refine jB ?_ | refine jX rfl ?_ | refine jY rfl ?_ | refine jK ?_ | refine jD ?_ | refine jE ?_)
          refine WpE.ef2 (by exact rfl) (by exact rfl) ?_ ?_
          · skip
            refine AppV.copyH (lo := ws.heap.size) (xs := (ints n.kids).take k) trivial ((Row1.takeV (k := k) (xs := ints n.kids) hN.2 (by omega)).ext (hxs.trans hRi)) (fun c hc => (ints_one n.kids) c (List.mem_of_mem_take hc)) (by omega) rfl hRi.size (fun v1i wq g1i hB1i hq hg1 => ?_)
            obtain ⟨ad1i, cap1i, rfl, _⟩ := id hB1i
            have hRi := hRi.trans hq
            refine ⟨Keep.ext hRi, ?_⟩
            repeat (first | refine uM ?_ | refine uR ?_ | refine uE ?_ | refine uB ?_ | refine uA ?_ | refine uD ?_ | refine jC ?_ | refine jN ?_ | refine jS ?_ | refine jR ?_ | refine jT ?_ | refine jB ?_ | refine jX rfl ?_ | refine jY rfl ?_ | refine jK ?_ | refine jD ?_ | refine jE ?_)
            refine Made.mk fun gli wq hq _ _ hlc _ => ?_
            have hRi := hRi.trans hq
            have hsrci : CellsAt wq gli 0 [(.int .i64 kid : Value)] := CellsAt.of_block hlc (fun i v hi => by simpa using hi)
            have hB1i := hB1i.ext hq hq.size
            refine ⟨Keep.ext hRi, ?_⟩
            repeat (first | refine uM ?_ | refine uR ?_ | refine uE ?_ | refine uB ?_ | refine uA ?_ | refine uD ?_ | refine jC ?_ | refine jN ?_ | refine jS ?_ | refine jR ?_ | refine jT ?_ | refine jB ?_ | refine jX rfl ?_ | refine jY rfl ?_ | refine jK ?_ | refine jD ?_ | refine jE ?_)
            refine AppV.bufS hB1i (by omega) hsrci rfl (by simp [Value.oneCell']) (fun _ => trivial) (by omega) (by omega) rfl hRi.size (Nat.le_refl _) (fun v2i wq g2i hB2i hc2i hw2i => ?_)
            obtain ⟨ad2i, cap2i, rfl, _⟩ := id hB2i
            have hR2i : Vc.Ext ws wq := by
              rcases hw2i with ⟨e, e0, rfl⟩ | ⟨_, hq⟩
              · exact hRi.trans' (below_setL (Below.refl _ _) (hB1i.blk e0).1 _ _)
              · exact hRi.trans hq
            have hgB2i := (hB2i.blk hc2i).1
            refine ⟨Keep.ext hR2i, ?_⟩
            repeat (first | refine uM ?_ | refine uR ?_ | refine uE ?_ | refine uB ?_ | refine uA ?_ | refine uD ?_ | refine jC ?_ | refine jN ?_ | refine jS ?_ | refine jR ?_ | refine jT ?_ | refine jB ?_ | refine jX rfl ?_ | refine jY rfl ?_ | refine jK ?_ | refine jD ?_ | refine jE ?_)
            refine AppV.bufR (news := (ints n.kids).drop k) hB2i hc2i ((Row1.dropV (k := k) (xs := ints n.kids) hN.2 (by omega)).ext (hxs.trans hR2i)) (fun c hc => (ints_one n.kids) c (List.mem_of_mem_drop hc)) trivial (by omega) (by omega) rfl hR2i.size (Nat.le_refl _) (fun v3i wfi g3i hB3i hc3s' hw3i => ?_)
            obtain ⟨ad3i, cap3i, rfl, _⟩ := id hB3i
            have hR3i : Vc.Ext ws wfi := by
              rcases hw3i with ⟨e, rfl⟩ | ⟨_, hq⟩
              · exact hR2i.trans' (below_setL (Below.refl _ _) hgB2i _ _)
              · exact hR2i.trans hq
            have hB4i : BufS ws.heap.size wfi.heap.size wfi (.slice ad3i (k + 1 + (n.kids.length - k)) cap3i) (k + 1 + (n.kids.length - k)) 1 (ints (n.kids.take k ++ kid :: n.kids.drop k)) g3i := by
              have e : ints (n.kids.take k ++ kid :: n.kids.drop k) = (ints n.kids).take k ++ [(.int .i64 kid : Value)] ++ (ints n.kids).drop k := by simp [List.map_append, List.map_take, List.map_drop]
              rw [e]; exact hB3i
            have hgBi := hB3i.blk hc3s'
            refine ⟨Keep.ext hR3i, ?_⟩
            repeat (first | refine uM ?_ | refine uR ?_ | refine uE ?_ | refine uB ?_ | refine uA ?_ | refine uD ?_ | refine jC ?_ | refine jN ?_ | refine jS ?_ | refine jR ?_ | refine jT ?_ | refine jB ?_ | refine jX rfl ?_ | refine jY rfl ?_ | refine jK ?_ | refine jD ?_ | refine jE ?_)
            have hm8fi := hm8s.ext hR3i
            refine ⟨by have := hm8fi.sub (k := 6) (m := 1) (by omega); rwa [Nat.zero_add] at this, trivial, rfl, by simp [Value.oneCell'], ?_⟩
            repeat (first | refine uM ?_ | refine uR ?_ | refine uE ?_ | refine uB ?_ | refine uA ?_ | refine uD ?_ | refine jC ?_ | refine jN ?_ | refine jS ?_ | refine jR ?_ | refine jT ?_ | refine jB ?_ | refine jX rfl ?_ | refine jY rfl ?_ | refine jK ?_ | refine jD ?_ | refine jE ?_)
            have hXi : ExcP (fun j => j = b8) wfi (setL wfi b8 (0 + 6) [Value.slice ad3i (k + 1 + (n.kids.length - k)) cap3i]) := (ExcP.refl (fun j => j = b8) wfi).setL (S := fun j => j = b8) rfl _ _
            have hsi := hR3i.size
            have hc8i := ((hc8s.ext hR3i).setAt (x := Value.slice ad3i (k + 1 + (n.kids.length - k)) cap3i) (hm8fi.sub (k := 6) (m := 1) (by omega)) (by simp))
            have hm6i := (hm6s.ext hR3i).exc (by omega) hXi (fun e => h68 e)
            have hxi : Vc.Ext w (setL wfi b8 (0 + 6) [Value.slice ad3i (k + 1 + (n.kids.length - k)) cap3i]) := (hxs.trans hR3i).trans' (hXi.below (by have := hxr.size; omega) fun j hj e => by omega)
            have hBn := ((hBs.ext (hi' := wfi.heap.size) hR3i hsi).exc (hi' := (setL wfi b8 (0 + 6) [Value.slice ad3i (k + 1 + (n.kids.length - k)) cap3i]).heap.size) hXi (fun _ e => by omega) (Nat.le_refl _) (by rw [setL_size]; exact Nat.le_refl _))
            have hBi := hB4i.exc (hi' := (setL wfi b8 (0 + 6) [Value.slice ad3i (k + 1 + (n.kids.length - k)) cap3i]).heap.size) hXi (fun _ e => by omega) (Nat.le_refl _) (by rw [setL_size]; exact Nat.le_refl _)
            have hwi : wfi.heap.size ≤ (setL wfi b8 (0 + 6) [Value.slice ad3i (k + 1 + (n.kids.length - k)) cap3i]).heap.size := by rw [setL_size]; exact Nat.le_refl _
            generalize (setL wfi b8 (0 + 6) [Value.slice ad3i (k + 1 + (n.kids.length - k)) cap3i]) = wt at hc8i hm6i hxi hBn hBi hwi hXi ⊢
            refine LdN.mk hc8i rfl ?_
            repeat (first | refine jC ?_ | refine jN ?_ | refine jS ?_ | refine jR ?_ | refine jT ?_ | refine jB ?_ | refine jX rfl ?_ | refine jY rfl ?_ | refine jK ?_ | refine jD ?_ | refine jE ?_)
            refine ⟨hm6i, trivial, rfl, by simp [Value.oneCell'], ?_⟩
            repeat (first | refine jC ?_ | refine jN ?_ | refine jS ?_ | refine jR ?_ | refine jT ?_ | refine jB ?_ | refine jX rfl ?_ | refine jY rfl ?_ | refine jK ?_ | refine jD ?_ | refine jE ?_)
            have hXt : ExcP (fun j => j = b6) wt (setL wt b6 0 _) := (ExcP.refl (fun j => j = b6) wt).setL (S := fun j => j = b6) rfl (n.cells (Value.slice ad3s (k + 1 + (n.names.length - k)) cap3s) (Value.slice ad3i (k + 1 + (n.kids.length - k)) cap3i)) 0
            refine LdN.mk (CellsAt.setL_in (l := n.cells (Value.slice ad3s (k + 1 + (n.names.length - k)) cap3s) (Value.slice ad3i (k + 1 + (n.kids.length - k)) cap3i)) hm6i) rfl ?_
            repeat (first | refine jC ?_ | refine jN ?_ | refine jS ?_ | refine jR ?_ | refine jT ?_ | refine jB ?_ | refine jX rfl ?_ | refine jY rfl ?_ | refine jK ?_ | refine jD ?_ | refine jE ?_)
            have hput : n.put x kid = { n with names := n.names.take k ++ x :: n.names.drop k, kids := n.kids.take k ++ kid :: n.kids.drop k } := by rw [hg]; rfl
            have hl1 : (n.put x kid).names.length = k + 1 + (n.names.length - k) := by
              rw [hput]; simp only [List.length_append, List.length_cons, List.length_take, List.length_drop]; omega
            have hl2 : (n.put x kid).kids.length = k + 1 + (n.kids.length - k) := by
              rw [hput]; simp only [List.length_append, List.length_cons, List.length_take, List.length_drop]; omega
            have hsx := hxr.size
            refine EndV.mk fun w' hw' => ⟨_, rfl, ⟨Value.slice ad3s (k + 1 + (n.names.length - k)) cap3s, Value.slice ad3i (k + 1 + (n.kids.length - k)) cap3i, g3s, g3i, rfl, ?_, ?_, by omega⟩, (hxi.trans' (hXt.below (by omega) fun j hj e => by omega)).trans hw'⟩
            · rw [hl1, hput]
              exact ((hBn.exc (hi' := (setL wt b6 0 (n.cells (Value.slice ad3s (k + 1 + (n.names.length - k)) cap3s) (Value.slice ad3i (k + 1 + (n.kids.length - k)) cap3i))).heap.size) hXt (fun _ e => by omega) (Nat.le_refl _) hXt.size).ext hw' hw'.size).low (by omega)
            · rw [hl2, hput]
              exact ((hBi.exc (hi' := (setL wt b6 0 (n.cells (Value.slice ad3s (k + 1 + (n.names.length - k)) cap3s) (Value.slice ad3i (k + 1 + (n.kids.length - k)) cap3i))).heap.size) hXt (fun _ e => by omega) (Nat.le_refl _) hXt.size).ext hw' hw'.size).low (by omega)
          · refine WpE.ef (by exact rfl) (by exact rfl) ?_
            refine Made.mk fun gli wq hq _ _ hlc _ => ?_
            have hRi := hRi.trans hq
            have hsrci : CellsAt wq gli 0 [(.int .i64 kid : Value)] := CellsAt.of_block hlc (fun i v hi => by simpa using hi)
            refine ⟨Keep.ext hRi, ?_⟩
            repeat (first | refine uM ?_ | refine uR ?_ | refine uE ?_ | refine uB ?_ | refine uA ?_ | refine uD ?_ | refine jC ?_ | refine jN ?_ | refine jS ?_ | refine jR ?_ | refine jT ?_ | refine jB ?_ | refine jX rfl ?_ | refine jY rfl ?_ | refine jK ?_ | refine jD ?_ | refine jE ?_)
            refine AppV.copyH (lo := ws.heap.size) (xs := (ints n.kids).take k) trivial ((Row1.takeV (k := k) (xs := ints n.kids) hN.2 (by omega)).ext (hxs.trans hRi)) (fun c hc => (ints_one n.kids) c (List.mem_of_mem_take hc)) (by omega) rfl hRi.size (fun v1i wq g1i hB1i hq hg1 => ?_)
            obtain ⟨ad1i, cap1i, rfl, _⟩ := id hB1i
            have hRi := hRi.trans hq
            have hsrci := hsrci.ext hq
            refine ⟨Keep.ext hRi, ?_⟩
            repeat (first | refine uM ?_ | refine uR ?_ | refine uE ?_ | refine uB ?_ | refine uA ?_ | refine uD ?_ | refine jC ?_ | refine jN ?_ | refine jS ?_ | refine jR ?_ | refine jT ?_ | refine jB ?_ | refine jX rfl ?_ | refine jY rfl ?_ | refine jK ?_ | refine jD ?_ | refine jE ?_)
            refine AppV.bufS hB1i (by omega) hsrci rfl (by simp [Value.oneCell']) (fun _ => trivial) (by omega) (by omega) rfl hRi.size (Nat.le_refl _) (fun v2i wq g2i hB2i hc2i hw2i => ?_)
            obtain ⟨ad2i, cap2i, rfl, _⟩ := id hB2i
            have hR2i : Vc.Ext ws wq := by
              rcases hw2i with ⟨e, e0, rfl⟩ | ⟨_, hq⟩
              · exact hRi.trans' (below_setL (Below.refl _ _) (hB1i.blk e0).1 _ _)
              · exact hRi.trans hq
            have hgB2i := (hB2i.blk hc2i).1
            refine ⟨Keep.ext hR2i, ?_⟩
            repeat (first | refine uM ?_ | refine uR ?_ | refine uE ?_ | refine uB ?_ | refine uA ?_ | refine uD ?_ | refine jC ?_ | refine jN ?_ | refine jS ?_ | refine jR ?_ | refine jT ?_ | refine jB ?_ | refine jX rfl ?_ | refine jY rfl ?_ | refine jK ?_ | refine jD ?_ | refine jE ?_)
            refine AppV.bufR (news := (ints n.kids).drop k) hB2i hc2i ((Row1.dropV (k := k) (xs := ints n.kids) hN.2 (by omega)).ext (hxs.trans hR2i)) (fun c hc => (ints_one n.kids) c (List.mem_of_mem_drop hc)) trivial (by omega) (by omega) rfl hR2i.size (Nat.le_refl _) (fun v3i wfi g3i hB3i hc3s' hw3i => ?_)
            obtain ⟨ad3i, cap3i, rfl, _⟩ := id hB3i
            have hR3i : Vc.Ext ws wfi := by
              rcases hw3i with ⟨e, rfl⟩ | ⟨_, hq⟩
              · exact hR2i.trans' (below_setL (Below.refl _ _) hgB2i _ _)
              · exact hR2i.trans hq
            have hB4i : BufS ws.heap.size wfi.heap.size wfi (.slice ad3i (k + 1 + (n.kids.length - k)) cap3i) (k + 1 + (n.kids.length - k)) 1 (ints (n.kids.take k ++ kid :: n.kids.drop k)) g3i := by
              have e : ints (n.kids.take k ++ kid :: n.kids.drop k) = (ints n.kids).take k ++ [(.int .i64 kid : Value)] ++ (ints n.kids).drop k := by simp [List.map_append, List.map_take, List.map_drop]
              rw [e]; exact hB3i
            have hgBi := hB3i.blk hc3s'
            refine ⟨Keep.ext hR3i, ?_⟩
            repeat (first | refine uM ?_ | refine uR ?_ | refine uE ?_ | refine uB ?_ | refine uA ?_ | refine uD ?_ | refine jC ?_ | refine jN ?_ | refine jS ?_ | refine jR ?_ | refine jT ?_ | refine jB ?_ | refine jX rfl ?_ | refine jY rfl ?_ | refine jK ?_ | refine jD ?_ | refine jE ?_)
            have hm8fi := hm8s.ext hR3i
            refine ⟨by have := hm8fi.sub (k := 6) (m := 1) (by omega); rwa [Nat.zero_add] at this, trivial, rfl, by simp [Value.oneCell'], ?_⟩
            repeat (first | refine uM ?_ | refine uR ?_ | refine uE ?_ | refine uB ?_ | refine uA ?_ | refine uD ?_ | refine jC ?_ | refine jN ?_ | refine jS ?_ | refine jR ?_ | refine jT ?_ | refine jB ?_ | refine jX rfl ?_ | refine jY rfl ?_ | refine jK ?_ | refine jD ?_ | refine jE ?_)
            have hXi : ExcP (fun j => j = b8) wfi (setL wfi b8 (0 + 6) [Value.slice ad3i (k + 1 + (n.kids.length - k)) cap3i]) := (ExcP.refl (fun j => j = b8) wfi).setL (S := fun j => j = b8) rfl _ _
            have hsi := hR3i.size
            have hc8i := ((hc8s.ext hR3i).setAt (x := Value.slice ad3i (k + 1 + (n.kids.length - k)) cap3i) (hm8fi.sub (k := 6) (m := 1) (by omega)) (by simp))
            have hm6i := (hm6s.ext hR3i).exc (by omega) hXi (fun e => h68 e)
            have hxi : Vc.Ext w (setL wfi b8 (0 + 6) [Value.slice ad3i (k + 1 + (n.kids.length - k)) cap3i]) := (hxs.trans hR3i).trans' (hXi.below (by have := hxr.size; omega) fun j hj e => by omega)
            have hBn := ((hBs.ext (hi' := wfi.heap.size) hR3i hsi).exc (hi' := (setL wfi b8 (0 + 6) [Value.slice ad3i (k + 1 + (n.kids.length - k)) cap3i]).heap.size) hXi (fun _ e => by omega) (Nat.le_refl _) (by rw [setL_size]; exact Nat.le_refl _))
            have hBi := hB4i.exc (hi' := (setL wfi b8 (0 + 6) [Value.slice ad3i (k + 1 + (n.kids.length - k)) cap3i]).heap.size) hXi (fun _ e => by omega) (Nat.le_refl _) (by rw [setL_size]; exact Nat.le_refl _)
            have hwi : wfi.heap.size ≤ (setL wfi b8 (0 + 6) [Value.slice ad3i (k + 1 + (n.kids.length - k)) cap3i]).heap.size := by rw [setL_size]; exact Nat.le_refl _
            generalize (setL wfi b8 (0 + 6) [Value.slice ad3i (k + 1 + (n.kids.length - k)) cap3i]) = wt at hc8i hm6i hxi hBn hBi hwi hXi ⊢
            refine LdN.mk hc8i rfl ?_
            repeat (first | refine jC ?_ | refine jN ?_ | refine jS ?_ | refine jR ?_ | refine jT ?_ | refine jB ?_ | refine jX rfl ?_ | refine jY rfl ?_ | refine jK ?_ | refine jD ?_ | refine jE ?_)
            refine ⟨hm6i, trivial, rfl, by simp [Value.oneCell'], ?_⟩
            repeat (first | refine jC ?_ | refine jN ?_ | refine jS ?_ | refine jR ?_ | refine jT ?_ | refine jB ?_ | refine jX rfl ?_ | refine jY rfl ?_ | refine jK ?_ | refine jD ?_ | refine jE ?_)
            have hXt : ExcP (fun j => j = b6) wt (setL wt b6 0 _) := (ExcP.refl (fun j => j = b6) wt).setL (S := fun j => j = b6) rfl (n.cells (Value.slice ad3s (k + 1 + (n.names.length - k)) cap3s) (Value.slice ad3i (k + 1 + (n.kids.length - k)) cap3i)) 0
            refine LdN.mk (CellsAt.setL_in (l := n.cells (Value.slice ad3s (k + 1 + (n.names.length - k)) cap3s) (Value.slice ad3i (k + 1 + (n.kids.length - k)) cap3i)) hm6i) rfl ?_
            repeat (first | refine jC ?_ | refine jN ?_ | refine jS ?_ | refine jR ?_ | refine jT ?_ | refine jB ?_ | refine jX rfl ?_ | refine jY rfl ?_ | refine jK ?_ | refine jD ?_ | refine jE ?_)
            have hput : n.put x kid = { n with names := n.names.take k ++ x :: n.names.drop k, kids := n.kids.take k ++ kid :: n.kids.drop k } := by rw [hg]; rfl
            have hl1 : (n.put x kid).names.length = k + 1 + (n.names.length - k) := by
              rw [hput]; simp only [List.length_append, List.length_cons, List.length_take, List.length_drop]; omega
            have hl2 : (n.put x kid).kids.length = k + 1 + (n.kids.length - k) := by
              rw [hput]; simp only [List.length_append, List.length_cons, List.length_take, List.length_drop]; omega
            have hsx := hxr.size
            refine EndV.mk fun w' hw' => ⟨_, rfl, ⟨Value.slice ad3s (k + 1 + (n.names.length - k)) cap3s, Value.slice ad3i (k + 1 + (n.kids.length - k)) cap3i, g3s, g3i, rfl, ?_, ?_, by omega⟩, (hxi.trans' (hXt.below (by omega) fun j hj e => by omega)).trans hw'⟩
            · rw [hl1, hput]
              exact ((hBn.exc (hi' := (setL wt b6 0 (n.cells (Value.slice ad3s (k + 1 + (n.names.length - k)) cap3s) (Value.slice ad3i (k + 1 + (n.kids.length - k)) cap3i))).heap.size) hXt (fun _ e => by omega) (Nat.le_refl _) hXt.size).ext hw' hw'.size).low (by omega)
            · rw [hl2, hput]
              exact ((hBi.exc (hi' := (setL wt b6 0 (n.cells (Value.slice ad3s (k + 1 + (n.names.length - k)) cap3s) (Value.slice ad3i (k + 1 + (n.kids.length - k)) cap3i))).heap.size) hXt (fun _ e => by omega) (Nat.le_refl _) hXt.size).ext hw' hw'.size).low (by omega)
        · refine WpE.ef (by exact rfl) (by exact rfl) ?_
          refine Made.mk fun gli wq hq _ _ hlc _ => ?_
          have hRi := hRi.trans hq
          have hsrci : CellsAt wq gli 0 [(.int .i64 kid : Value)] := CellsAt.of_block hlc (fun i v hi => by simpa using hi)
          refine ⟨Keep.ext hRi, ?_⟩
          repeat (first | refine uM ?_ | refine uR ?_ | refine uE ?_ | refine uB ?_ | refine uA ?_ | refine uD ?_ | refine jC ?_ | refine jN ?_ | refine jS ?_ | refine jR ?_ | refine jT ?_ | refine jB ?_ | refine jX rfl ?_ | refine jY rfl ?_ | refine jK ?_ | refine jD ?_ | refine jE ?_)
          refine Made.mk fun g0i wq hq _ _ _ _ => ?_
          have hRi := hRi.trans hq
          have hsrci := hsrci.ext hq
          refine ⟨Keep.ext hRi, ?_⟩
          repeat (first | refine uM ?_ | refine uR ?_ | refine uE ?_ | refine uB ?_ | refine uA ?_ | refine uD ?_ | refine jC ?_ | refine jN ?_ | refine jS ?_ | refine jR ?_ | refine jT ?_ | refine jB ?_ | refine jX rfl ?_ | refine jY rfl ?_ | refine jK ?_ | refine jD ?_ | refine jE ?_)
          refine AppV.copyH (lo := ws.heap.size) (xs := (ints n.kids).take k) trivial ((Row1.takeV (k := k) (xs := ints n.kids) hN.2 (by omega)).ext (hxs.trans hRi)) (fun c hc => (ints_one n.kids) c (List.mem_of_mem_take hc)) (by omega) rfl hRi.size (fun v1i wq g1i hB1i hq hg1 => ?_)
          obtain ⟨ad1i, cap1i, rfl, _⟩ := id hB1i
          have hRi := hRi.trans hq
          have hsrci := hsrci.ext hq
          refine ⟨Keep.ext hRi, ?_⟩
          repeat (first | refine uM ?_ | refine uR ?_ | refine uE ?_ | refine uB ?_ | refine uA ?_ | refine uD ?_ | refine jC ?_ | refine jN ?_ | refine jS ?_ | refine jR ?_ | refine jT ?_ | refine jB ?_ | refine jX rfl ?_ | refine jY rfl ?_ | refine jK ?_ | refine jD ?_ | refine jE ?_)
          refine AppV.bufS hB1i (by omega) hsrci rfl (by simp [Value.oneCell']) (fun _ => trivial) (by omega) (by omega) rfl hRi.size (Nat.le_refl _) (fun v2i wq g2i hB2i hc2i hw2i => ?_)
          obtain ⟨ad2i, cap2i, rfl, _⟩ := id hB2i
          have hR2i : Vc.Ext ws wq := by
            rcases hw2i with ⟨e, e0, rfl⟩ | ⟨_, hq⟩
            · exact hRi.trans' (below_setL (Below.refl _ _) (hB1i.blk e0).1 _ _)
            · exact hRi.trans hq
          have hgB2i := (hB2i.blk hc2i).1
          refine ⟨Keep.ext hR2i, ?_⟩
          repeat (first | refine uM ?_ | refine uR ?_ | refine uE ?_ | refine uB ?_ | refine uA ?_ | refine uD ?_ | refine jC ?_ | refine jN ?_ | refine jS ?_ | refine jR ?_ | refine jT ?_ | refine jB ?_ | refine jX rfl ?_ | refine jY rfl ?_ | refine jK ?_ | refine jD ?_ | refine jE ?_)
          refine AppV.bufR (news := (ints n.kids).drop k) hB2i hc2i ((Row1.dropV (k := k) (xs := ints n.kids) hN.2 (by omega)).ext (hxs.trans hR2i)) (fun c hc => (ints_one n.kids) c (List.mem_of_mem_drop hc)) trivial (by omega) (by omega) rfl hR2i.size (Nat.le_refl _) (fun v3i wfi g3i hB3i hc3s' hw3i => ?_)
          obtain ⟨ad3i, cap3i, rfl, _⟩ := id hB3i
          have hR3i : Vc.Ext ws wfi := by
            rcases hw3i with ⟨e, rfl⟩ | ⟨_, hq⟩
            · exact hR2i.trans' (below_setL (Below.refl _ _) hgB2i _ _)
            · exact hR2i.trans hq
          have hB4i : BufS ws.heap.size wfi.heap.size wfi (.slice ad3i (k + 1 + (n.kids.length - k)) cap3i) (k + 1 + (n.kids.length - k)) 1 (ints (n.kids.take k ++ kid :: n.kids.drop k)) g3i := by
            have e : ints (n.kids.take k ++ kid :: n.kids.drop k) = (ints n.kids).take k ++ [(.int .i64 kid : Value)] ++ (ints n.kids).drop k := by simp [List.map_append, List.map_take, List.map_drop]
            rw [e]; exact hB3i
          have hgBi := hB3i.blk hc3s'
          refine ⟨Keep.ext hR3i, ?_⟩
          repeat (first | refine uM ?_ | refine uR ?_ | refine uE ?_ | refine uB ?_ | refine uA ?_ | refine uD ?_ | refine jC ?_ | refine jN ?_ | refine jS ?_ | refine jR ?_ | refine jT ?_ | refine jB ?_ | refine jX rfl ?_ | refine jY rfl ?_ | refine jK ?_ | refine jD ?_ | refine jE ?_)
          have hm8fi := hm8s.ext hR3i
          refine ⟨by have := hm8fi.sub (k := 6) (m := 1) (by omega); rwa [Nat.zero_add] at this, trivial, rfl, by simp [Value.oneCell'], ?_⟩
          repeat (first | refine uM ?_ | refine uR ?_ | refine uE ?_ | refine uB ?_ | refine uA ?_ | refine uD ?_ | refine jC ?_ | refine jN ?_ | refine jS ?_ | refine jR ?_ | refine jT ?_ | refine jB ?_ | refine jX rfl ?_ | refine jY rfl ?_ | refine jK ?_ | refine jD ?_ | refine jE ?_)
          have hXi : ExcP (fun j => j = b8) wfi (setL wfi b8 (0 + 6) [Value.slice ad3i (k + 1 + (n.kids.length - k)) cap3i]) := (ExcP.refl (fun j => j = b8) wfi).setL (S := fun j => j = b8) rfl _ _
          have hsi := hR3i.size
          have hc8i := ((hc8s.ext hR3i).setAt (x := Value.slice ad3i (k + 1 + (n.kids.length - k)) cap3i) (hm8fi.sub (k := 6) (m := 1) (by omega)) (by simp))
          have hm6i := (hm6s.ext hR3i).exc (by omega) hXi (fun e => h68 e)
          have hxi : Vc.Ext w (setL wfi b8 (0 + 6) [Value.slice ad3i (k + 1 + (n.kids.length - k)) cap3i]) := (hxs.trans hR3i).trans' (hXi.below (by have := hxr.size; omega) fun j hj e => by omega)
          have hBn := ((hBs.ext (hi' := wfi.heap.size) hR3i hsi).exc (hi' := (setL wfi b8 (0 + 6) [Value.slice ad3i (k + 1 + (n.kids.length - k)) cap3i]).heap.size) hXi (fun _ e => by omega) (Nat.le_refl _) (by rw [setL_size]; exact Nat.le_refl _))
          have hBi := hB4i.exc (hi' := (setL wfi b8 (0 + 6) [Value.slice ad3i (k + 1 + (n.kids.length - k)) cap3i]).heap.size) hXi (fun _ e => by omega) (Nat.le_refl _) (by rw [setL_size]; exact Nat.le_refl _)
          have hwi : wfi.heap.size ≤ (setL wfi b8 (0 + 6) [Value.slice ad3i (k + 1 + (n.kids.length - k)) cap3i]).heap.size := by rw [setL_size]; exact Nat.le_refl _
          generalize (setL wfi b8 (0 + 6) [Value.slice ad3i (k + 1 + (n.kids.length - k)) cap3i]) = wt at hc8i hm6i hxi hBn hBi hwi hXi ⊢
          refine LdN.mk hc8i rfl ?_
          repeat (first | refine jC ?_ | refine jN ?_ | refine jS ?_ | refine jR ?_ | refine jT ?_ | refine jB ?_ | refine jX rfl ?_ | refine jY rfl ?_ | refine jK ?_ | refine jD ?_ | refine jE ?_)
          refine ⟨hm6i, trivial, rfl, by simp [Value.oneCell'], ?_⟩
          repeat (first | refine jC ?_ | refine jN ?_ | refine jS ?_ | refine jR ?_ | refine jT ?_ | refine jB ?_ | refine jX rfl ?_ | refine jY rfl ?_ | refine jK ?_ | refine jD ?_ | refine jE ?_)
          have hXt : ExcP (fun j => j = b6) wt (setL wt b6 0 _) := (ExcP.refl (fun j => j = b6) wt).setL (S := fun j => j = b6) rfl (n.cells (Value.slice ad3s (k + 1 + (n.names.length - k)) cap3s) (Value.slice ad3i (k + 1 + (n.kids.length - k)) cap3i)) 0
          refine LdN.mk (CellsAt.setL_in (l := n.cells (Value.slice ad3s (k + 1 + (n.names.length - k)) cap3s) (Value.slice ad3i (k + 1 + (n.kids.length - k)) cap3i)) hm6i) rfl ?_
          repeat (first | refine jC ?_ | refine jN ?_ | refine jS ?_ | refine jR ?_ | refine jT ?_ | refine jB ?_ | refine jX rfl ?_ | refine jY rfl ?_ | refine jK ?_ | refine jD ?_ | refine jE ?_)
          have hput : n.put x kid = { n with names := n.names.take k ++ x :: n.names.drop k, kids := n.kids.take k ++ kid :: n.kids.drop k } := by rw [hg]; rfl
          have hl1 : (n.put x kid).names.length = k + 1 + (n.names.length - k) := by
            rw [hput]; simp only [List.length_append, List.length_cons, List.length_take, List.length_drop]; omega
          have hl2 : (n.put x kid).kids.length = k + 1 + (n.kids.length - k) := by
            rw [hput]; simp only [List.length_append, List.length_cons, List.length_take, List.length_drop]; omega
          have hsx := hxr.size
          refine EndV.mk fun w' hw' => ⟨_, rfl, ⟨Value.slice ad3s (k + 1 + (n.names.length - k)) cap3s, Value.slice ad3i (k + 1 + (n.kids.length - k)) cap3i, g3s, g3i, rfl, ?_, ?_, by omega⟩, (hxi.trans' (hXt.below (by omega) fun j hj e => by omega)).trans hw'⟩
          · rw [hl1, hput]
            exact ((hBn.exc (hi' := (setL wt b6 0 (n.cells (Value.slice ad3s (k + 1 + (n.names.length - k)) cap3s) (Value.slice ad3i (k + 1 + (n.kids.length - k)) cap3i))).heap.size) hXt (fun _ e => by omega) (Nat.le_refl _) hXt.size).ext hw' hw'.size).low (by omega)
          · rw [hl2, hput]
            exact ((hBi.exc (hi' := (setL wt b6 0 (n.cells (Value.slice ad3s (k + 1 + (n.names.length - k)) cap3s) (Value.slice ad3i (k + 1 + (n.kids.length - k)) cap3i))).heap.size) hXt (fun _ e => by omega) (Nat.le_refl _) hXt.size).ext hw' hw'.size).low (by omega)
      · refine WpE.ef (by exact rfl) (by exact rfl) ?_
        refine Made.mk fun gls wq hq _ _ hlc _ => ?_
        have hRs := hRs.trans hq
        have hsrcs : CellsAt wq gls 0 [(.string x : Value)] := CellsAt.of_block hlc (fun i v hi => by simpa using hi)
        refine ⟨Keep.ext hRs, ?_⟩
        repeat (first | refine uM ?_ | refine uR ?_ | refine uE ?_ | refine uB ?_ | refine uA ?_ | refine uD ?_ | refine jC ?_ | refine jN ?_ | refine jS ?_ | refine jR ?_ | refine jT ?_ | refine jB ?_ | refine jX rfl ?_ | refine jY rfl ?_ | refine jK ?_ | refine jD ?_ | refine jE ?_)
        refine AppV.copyH (lo := wr.heap.size) (xs := (strs n.names).take k) trivial ((Row1.takeV (k := k) (xs := strs n.names) hN.1 (by omega)).ext (hxr.trans hRs)) (fun c hc => (strs_one n.names) c (List.mem_of_mem_take hc)) (by omega) rfl hRs.size (fun v1s wq g1s hB1s hq hg1 => ?_)
        obtain ⟨ad1s, cap1s, rfl, _⟩ := id hB1s
        have hRs := hRs.trans hq
        have hsrcs := hsrcs.ext hq
        refine ⟨Keep.ext hRs, ?_⟩
        repeat (first | refine uM ?_ | refine uR ?_ | refine uE ?_ | refine uB ?_ | refine uA ?_ | refine uD ?_ | refine jC ?_ | refine jN ?_ | refine jS ?_ | refine jR ?_ | refine jT ?_ | refine jB ?_ | refine jX rfl ?_ | refine jY rfl ?_ | refine jK ?_ | refine jD ?_ | refine jE ?_)
        refine AppV.bufS hB1s (by omega) hsrcs rfl (by simp [Value.oneCell']) (fun _ => trivial) (by omega) (by omega) rfl hRs.size (Nat.le_refl _) (fun v2s wq g2s hB2s hc2s hw2s => ?_)
        obtain ⟨ad2s, cap2s, rfl, _⟩ := id hB2s
        have hR2s : Vc.Ext wr wq := by
          rcases hw2s with ⟨e, e0, rfl⟩ | ⟨_, hq⟩
          · exact hRs.trans' (below_setL (Below.refl _ _) (hB1s.blk e0).1 _ _)
          · exact hRs.trans hq
        have hgB2s := (hB2s.blk hc2s).1
        refine ⟨Keep.ext hR2s, ?_⟩
        repeat (first | refine uM ?_ | refine uR ?_ | refine uE ?_ | refine uB ?_ | refine uA ?_ | refine uD ?_ | refine jC ?_ | refine jN ?_ | refine jS ?_ | refine jR ?_ | refine jT ?_ | refine jB ?_ | refine jX rfl ?_ | refine jY rfl ?_ | refine jK ?_ | refine jD ?_ | refine jE ?_)
        refine AppV.bufR (news := (strs n.names).drop k) hB2s hc2s ((Row1.dropV (k := k) (xs := strs n.names) hN.1 (by omega)).ext (hxr.trans hR2s)) (fun c hc => (strs_one n.names) c (List.mem_of_mem_drop hc)) trivial (by omega) (by omega) rfl hR2s.size (Nat.le_refl _) (fun v3s wfs g3s hB3s hc3' hw3s => ?_)
        obtain ⟨ad3s, cap3s, rfl, _⟩ := id hB3s
        have hR3s : Vc.Ext wr wfs := by
          rcases hw3s with ⟨e, rfl⟩ | ⟨_, hq⟩
          · exact hR2s.trans' (below_setL (Below.refl _ _) hgB2s _ _)
          · exact hR2s.trans hq
        have hB4s : BufS wr.heap.size wfs.heap.size wfs (.slice ad3s (k + 1 + (n.names.length - k)) cap3s) (k + 1 + (n.names.length - k)) 1 (strs (n.names.take k ++ x :: n.names.drop k)) g3s := by
          have e : strs (n.names.take k ++ x :: n.names.drop k) = (strs n.names).take k ++ [(.string x : Value)] ++ (strs n.names).drop k := by simp [List.map_append, List.map_take, List.map_drop]
          rw [e]; exact hB3s
        have hgBs := hB3s.blk hc3'
        refine ⟨Keep.ext hR3s, ?_⟩
        repeat (first | refine uM ?_ | refine uR ?_ | refine uE ?_ | refine uB ?_ | refine uA ?_ | refine uD ?_ | refine jC ?_ | refine jN ?_ | refine jS ?_ | refine jR ?_ | refine jT ?_ | refine jB ?_ | refine jX rfl ?_ | refine jY rfl ?_ | refine jK ?_ | refine jD ?_ | refine jE ?_)
        have hm8fs := hm8.ext hR3s
        refine ⟨by have := hm8fs.sub (k := 5) (m := 1) (by omega); rwa [Nat.zero_add] at this, trivial, rfl, by simp [Value.oneCell'], ?_⟩
        repeat (first | refine uM ?_ | refine uR ?_ | refine uE ?_ | refine uB ?_ | refine uA ?_ | refine uD ?_ | refine jC ?_ | refine jN ?_ | refine jS ?_ | refine jR ?_ | refine jT ?_ | refine jB ?_ | refine jX rfl ?_ | refine jY rfl ?_ | refine jK ?_ | refine jD ?_ | refine jE ?_)
        have hXs : ExcP (fun j => j = b8) wfs (setL wfs b8 (0 + 5) [Value.slice ad3s (k + 1 + (n.names.length - k)) cap3s]) := (ExcP.refl (fun j => j = b8) wfs).setL (S := fun j => j = b8) rfl _ _
        have hm8s : MutN (setL wfs b8 (0 + 5) [Value.slice ad3s (k + 1 + (n.names.length - k)) cap3s]) b8 0 7 := MutN.setL _ _ _ hm8fs
        have hc8s := ((hc8.ext hR3s).setAt (x := Value.slice ad3s (k + 1 + (n.names.length - k)) cap3s) (hm8fs.sub (k := 5) (m := 1) (by omega)) (by simp))
        have hsr := hR3s.size
        have hc3s := (hc3.ext hR3s).exc (by omega) hXs (fun e => h38 e)
        have hm6s := (hm6.ext hR3s).exc (by omega) hXs (fun e => h68 e)
        have hxs : Vc.Ext w (setL wfs b8 (0 + 5) [Value.slice ad3s (k + 1 + (n.names.length - k)) cap3s]) := (hxr.trans hR3s).trans' (hXs.below (by have := hxr.size; omega) fun j hj e => by omega)
        have hBs := hB4s.exc (hi' := (setL wfs b8 (0 + 5) [Value.slice ad3s (k + 1 + (n.names.length - k)) cap3s]).heap.size) hXs (fun _ e => by omega) (Nat.le_refl _) (by rw [setL_size]; exact Nat.le_refl _)
        have hwl : wfs.heap.size ≤ (setL wfs b8 (0 + 5) [Value.slice ad3s (k + 1 + (n.names.length - k)) cap3s]).heap.size := by rw [setL_size]; exact Nat.le_refl _
        generalize (setL wfs b8 (0 + 5) [Value.slice ad3s (k + 1 + (n.names.length - k)) cap3s]) = ws at hm8s hc8s hc3s hm6s hxs hBs hwl hXs ⊢
        have hxr0 := hxs
        refine WpC.drawE (.st 1 (.st 2 (.st 3 (.st 4 (.st 6 (.st 9 (.st 10 (.st 11 (.st 12 (.ef 0 (.ef 5 (.ef 7 (.ef 8 (.ef 13 (.st 14 (.ef 15 .done .done)) .done) .done) .done) (.ef 7 (.ef 5 (.ef 8 (.ef 13 (.st 14 (.ef 15 .done .done)) .done) .done) .done) .done)) (.ef 7 (.ef 0 (.ef 5 (.ef 8 (.ef 13 (.st 14 (.ef 15 .done .done)) .done) .done) .done) .done) .done))))))))))) [(0, .ef), (3, .mv), (5, .ef), (6, .mv), (7, .ef), (8, .ef), (11, .mv), (13, .ef), (15, .br)] (by kernel_rfl) ?_
        repeat (first | refine uM ?_ | refine uR ?_ | refine uE ?_ | refine uB ?_ | refine uA ?_ | refine uD ?_ | refine jC ?_ | refine jN ?_ | refine jS ?_ | refine jR ?_ | refine jT ?_ | refine jB ?_ | refine jX rfl ?_ | refine jY rfl ?_ | refine jK ?_ | refine jD ?_ | refine jE ?_)
        refine Ld.mk (hc3s.out 6 _ rfl) ?_
        repeat (first | refine uM ?_ | refine uR ?_ | refine uE ?_ | refine uB ?_ | refine uA ?_ | refine uD ?_ | refine jC ?_ | refine jN ?_ | refine jS ?_ | refine jR ?_ | refine jT ?_ | refine jB ?_ | refine jX rfl ?_ | refine jY rfl ?_ | refine jK ?_ | refine jD ?_ | refine jE ?_)
        refine ⟨k, rfl, by omega, ?_⟩
        repeat (first | refine uM ?_ | refine uR ?_ | refine uE ?_ | refine uB ?_ | refine uA ?_ | refine uD ?_ | refine jC ?_ | refine jN ?_ | refine jS ?_ | refine jR ?_ | refine jT ?_ | refine jB ?_ | refine jX rfl ?_ | refine jY rfl ?_ | refine jK ?_ | refine jD ?_ | refine jE ?_)
        refine Ld.mk (hc3s.out 6 _ rfl) ?_
        repeat (first | refine uM ?_ | refine uR ?_ | refine uE ?_ | refine uB ?_ | refine uA ?_ | refine uD ?_ | refine jC ?_ | refine jN ?_ | refine jS ?_ | refine jR ?_ | refine jT ?_ | refine jB ?_ | refine jX rfl ?_ | refine jY rfl ?_ | refine jK ?_ | refine jD ?_ | refine jE ?_)
        refine ⟨k, rfl, by omega, by omega, ?_⟩
        repeat (first | refine uM ?_ | refine uR ?_ | refine uE ?_ | refine uB ?_ | refine uA ?_ | refine uD ?_ | refine jC ?_ | refine jN ?_ | refine jS ?_ | refine jR ?_ | refine jT ?_ | refine jB ?_ | refine jX rfl ?_ | refine jY rfl ?_ | refine jK ?_ | refine jD ?_ | refine jE ?_)
        have hRi := Vc.Ext.refl ws
        refine WpE.ef2 (by exact rfl) (by exact rfl) ?_ ?_
        · skip
          refine Made.mk fun g0i wq hq _ _ _ _ => ?_
          have hRi := hRi.trans hq
          refine ⟨Keep.ext hRi, ?_⟩
          repeat (first | refine uM ?_ | refine uR ?_ | refine uE ?_ | refine uB ?_ | refine uA ?_ | refine uD ?_ | refine jC ?_ | refine jN ?_ | refine jS ?_ | refine jR ?_ | refine jT ?_ | refine jB ?_ | refine jX rfl ?_ | refine jY rfl ?_ | refine jK ?_ | refine jD ?_ | refine jE ?_)
          refine WpE.ef2 (by exact rfl) (by exact rfl) ?_ ?_
          · skip
            refine AppV.copyH (lo := ws.heap.size) (xs := (ints n.kids).take k) trivial ((Row1.takeV (k := k) (xs := ints n.kids) hN.2 (by omega)).ext (hxs.trans hRi)) (fun c hc => (ints_one n.kids) c (List.mem_of_mem_take hc)) (by omega) rfl hRi.size (fun v1i wq g1i hB1i hq hg1 => ?_)
            obtain ⟨ad1i, cap1i, rfl, _⟩ := id hB1i
            have hRi := hRi.trans hq
            refine ⟨Keep.ext hRi, ?_⟩
            repeat (first | refine uM ?_ | refine uR ?_ | refine uE ?_ | refine uB ?_ | refine uA ?_ | refine uD ?_ | refine jC ?_ | refine jN ?_ | refine jS ?_ | refine jR ?_ | refine jT ?_ | refine jB ?_ | refine jX rfl ?_ | refine jY rfl ?_ | refine jK ?_ | refine jD ?_ | refine jE ?_)
            refine Made.mk fun gli wq hq _ _ hlc _ => ?_
            have hRi := hRi.trans hq
            have hsrci : CellsAt wq gli 0 [(.int .i64 kid : Value)] := CellsAt.of_block hlc (fun i v hi => by simpa using hi)
            have hB1i := hB1i.ext hq hq.size
            refine ⟨Keep.ext hRi, ?_⟩
            repeat (first | refine uM ?_ | refine uR ?_ | refine uE ?_ | refine uB ?_ | refine uA ?_ | refine uD ?_ | refine jC ?_ | refine jN ?_ | refine jS ?_ | refine jR ?_ | refine jT ?_ | refine jB ?_ | refine jX rfl ?_ | refine jY rfl ?_ | refine jK ?_ | refine jD ?_ | refine jE ?_)
            refine AppV.bufS hB1i (by omega) hsrci rfl (by simp [Value.oneCell']) (fun _ => trivial) (by omega) (by omega) rfl hRi.size (Nat.le_refl _) (fun v2i wq g2i hB2i hc2i hw2i => ?_)
            obtain ⟨ad2i, cap2i, rfl, _⟩ := id hB2i
            have hR2i : Vc.Ext ws wq := by
              rcases hw2i with ⟨e, e0, rfl⟩ | ⟨_, hq⟩
              · exact hRi.trans' (below_setL (Below.refl _ _) (hB1i.blk e0).1 _ _)
              · exact hRi.trans hq
            have hgB2i := (hB2i.blk hc2i).1
            refine ⟨Keep.ext hR2i, ?_⟩
            repeat (first | refine uM ?_ | refine uR ?_ | refine uE ?_ | refine uB ?_ | refine uA ?_ | refine uD ?_ | refine jC ?_ | refine jN ?_ | refine jS ?_ | refine jR ?_ | refine jT ?_ | refine jB ?_ | refine jX rfl ?_ | refine jY rfl ?_ | refine jK ?_ | refine jD ?_ | refine jE ?_)
            refine AppV.bufR (news := (ints n.kids).drop k) hB2i hc2i ((Row1.dropV (k := k) (xs := ints n.kids) hN.2 (by omega)).ext (hxs.trans hR2i)) (fun c hc => (ints_one n.kids) c (List.mem_of_mem_drop hc)) trivial (by omega) (by omega) rfl hR2i.size (Nat.le_refl _) (fun v3i wfi g3i hB3i hc3s' hw3i => ?_)
            obtain ⟨ad3i, cap3i, rfl, _⟩ := id hB3i
            have hR3i : Vc.Ext ws wfi := by
              rcases hw3i with ⟨e, rfl⟩ | ⟨_, hq⟩
              · exact hR2i.trans' (below_setL (Below.refl _ _) hgB2i _ _)
              · exact hR2i.trans hq
            have hB4i : BufS ws.heap.size wfi.heap.size wfi (.slice ad3i (k + 1 + (n.kids.length - k)) cap3i) (k + 1 + (n.kids.length - k)) 1 (ints (n.kids.take k ++ kid :: n.kids.drop k)) g3i := by
              have e : ints (n.kids.take k ++ kid :: n.kids.drop k) = (ints n.kids).take k ++ [(.int .i64 kid : Value)] ++ (ints n.kids).drop k := by simp [List.map_append, List.map_take, List.map_drop]
              rw [e]; exact hB3i
            have hgBi := hB3i.blk hc3s'
            refine ⟨Keep.ext hR3i, ?_⟩
            repeat (first | refine uM ?_ | refine uR ?_ | refine uE ?_ | refine uB ?_ | refine uA ?_ | refine uD ?_ | refine jC ?_ | refine jN ?_ | refine jS ?_ | refine jR ?_ | refine jT ?_ | refine jB ?_ | refine jX rfl ?_ | refine jY rfl ?_ | refine jK ?_ | refine jD ?_ | refine jE ?_)
            have hm8fi := hm8s.ext hR3i
            refine ⟨by have := hm8fi.sub (k := 6) (m := 1) (by omega); rwa [Nat.zero_add] at this, trivial, rfl, by simp [Value.oneCell'], ?_⟩
            repeat (first | refine uM ?_ | refine uR ?_ | refine uE ?_ | refine uB ?_ | refine uA ?_ | refine uD ?_ | refine jC ?_ | refine jN ?_ | refine jS ?_ | refine jR ?_ | refine jT ?_ | refine jB ?_ | refine jX rfl ?_ | refine jY rfl ?_ | refine jK ?_ | refine jD ?_ | refine jE ?_)
            have hXi : ExcP (fun j => j = b8) wfi (setL wfi b8 (0 + 6) [Value.slice ad3i (k + 1 + (n.kids.length - k)) cap3i]) := (ExcP.refl (fun j => j = b8) wfi).setL (S := fun j => j = b8) rfl _ _
            have hsi := hR3i.size
            have hc8i := ((hc8s.ext hR3i).setAt (x := Value.slice ad3i (k + 1 + (n.kids.length - k)) cap3i) (hm8fi.sub (k := 6) (m := 1) (by omega)) (by simp))
            have hm6i := (hm6s.ext hR3i).exc (by omega) hXi (fun e => h68 e)
            have hxi : Vc.Ext w (setL wfi b8 (0 + 6) [Value.slice ad3i (k + 1 + (n.kids.length - k)) cap3i]) := (hxs.trans hR3i).trans' (hXi.below (by have := hxr.size; omega) fun j hj e => by omega)
            have hBn := ((hBs.ext (hi' := wfi.heap.size) hR3i hsi).exc (hi' := (setL wfi b8 (0 + 6) [Value.slice ad3i (k + 1 + (n.kids.length - k)) cap3i]).heap.size) hXi (fun _ e => by omega) (Nat.le_refl _) (by rw [setL_size]; exact Nat.le_refl _))
            have hBi := hB4i.exc (hi' := (setL wfi b8 (0 + 6) [Value.slice ad3i (k + 1 + (n.kids.length - k)) cap3i]).heap.size) hXi (fun _ e => by omega) (Nat.le_refl _) (by rw [setL_size]; exact Nat.le_refl _)
            have hwi : wfi.heap.size ≤ (setL wfi b8 (0 + 6) [Value.slice ad3i (k + 1 + (n.kids.length - k)) cap3i]).heap.size := by rw [setL_size]; exact Nat.le_refl _
            generalize (setL wfi b8 (0 + 6) [Value.slice ad3i (k + 1 + (n.kids.length - k)) cap3i]) = wt at hc8i hm6i hxi hBn hBi hwi hXi ⊢
            refine LdN.mk hc8i rfl ?_
            repeat (first | refine jC ?_ | refine jN ?_ | refine jS ?_ | refine jR ?_ | refine jT ?_ | refine jB ?_ | refine jX rfl ?_ | refine jY rfl ?_ | refine jK ?_ | refine jD ?_ | refine jE ?_)
            refine ⟨hm6i, trivial, rfl, by simp [Value.oneCell'], ?_⟩
            repeat (first | refine jC ?_ | refine jN ?_ | refine jS ?_ | refine jR ?_ | refine jT ?_ | refine jB ?_ | refine jX rfl ?_ | refine jY rfl ?_ | refine jK ?_ | refine jD ?_ | refine jE ?_)
            have hXt : ExcP (fun j => j = b6) wt (setL wt b6 0 _) := (ExcP.refl (fun j => j = b6) wt).setL (S := fun j => j = b6) rfl (n.cells (Value.slice ad3s (k + 1 + (n.names.length - k)) cap3s) (Value.slice ad3i (k + 1 + (n.kids.length - k)) cap3i)) 0
            refine LdN.mk (CellsAt.setL_in (l := n.cells (Value.slice ad3s (k + 1 + (n.names.length - k)) cap3s) (Value.slice ad3i (k + 1 + (n.kids.length - k)) cap3i)) hm6i) rfl ?_
            repeat (first | refine jC ?_ | refine jN ?_ | refine jS ?_ | refine jR ?_ | refine jT ?_ | refine jB ?_ | refine jX rfl ?_ | refine jY rfl ?_ | refine jK ?_ | refine jD ?_ | refine jE ?_)
            have hput : n.put x kid = { n with names := n.names.take k ++ x :: n.names.drop k, kids := n.kids.take k ++ kid :: n.kids.drop k } := by rw [hg]; rfl
            have hl1 : (n.put x kid).names.length = k + 1 + (n.names.length - k) := by
              rw [hput]; simp only [List.length_append, List.length_cons, List.length_take, List.length_drop]; omega
            have hl2 : (n.put x kid).kids.length = k + 1 + (n.kids.length - k) := by
              rw [hput]; simp only [List.length_append, List.length_cons, List.length_take, List.length_drop]; omega
            have hsx := hxr.size
            refine EndV.mk fun w' hw' => ⟨_, rfl, ⟨Value.slice ad3s (k + 1 + (n.names.length - k)) cap3s, Value.slice ad3i (k + 1 + (n.kids.length - k)) cap3i, g3s, g3i, rfl, ?_, ?_, by omega⟩, (hxi.trans' (hXt.below (by omega) fun j hj e => by omega)).trans hw'⟩
            · rw [hl1, hput]
              exact ((hBn.exc (hi' := (setL wt b6 0 (n.cells (Value.slice ad3s (k + 1 + (n.names.length - k)) cap3s) (Value.slice ad3i (k + 1 + (n.kids.length - k)) cap3i))).heap.size) hXt (fun _ e => by omega) (Nat.le_refl _) hXt.size).ext hw' hw'.size).low (by omega)
            · rw [hl2, hput]
              exact ((hBi.exc (hi' := (setL wt b6 0 (n.cells (Value.slice ad3s (k + 1 + (n.names.length - k)) cap3s) (Value.slice ad3i (k + 1 + (n.kids.length - k)) cap3i))).heap.size) hXt (fun _ e => by omega) (Nat.le_refl _) hXt.size).ext hw' hw'.size).low (by omega)
          · refine WpE.ef (by exact rfl) (by exact rfl) ?_
            refine Made.mk fun gli wq hq _ _ hlc _ => ?_
            have hRi := hRi.trans hq
            have hsrci : CellsAt wq gli 0 [(.int .i64 kid : Value)] := CellsAt.of_block hlc (fun i v hi => by simpa using hi)
            refine ⟨Keep.ext hRi, ?_⟩
            repeat (first | refine uM ?_ | refine uR ?_ | refine uE ?_ | refine uB ?_ | refine uA ?_ | refine uD ?_ | refine jC ?_ | refine jN ?_ | refine jS ?_ | refine jR ?_ | refine jT ?_ | refine jB ?_ | refine jX rfl ?_ | refine jY rfl ?_ | refine jK ?_ | refine jD ?_ | refine jE ?_)
            refine AppV.copyH (lo := ws.heap.size) (xs := (ints n.kids).take k) trivial ((Row1.takeV (k := k) (xs := ints n.kids) hN.2 (by omega)).ext (hxs.trans hRi)) (fun c hc => (ints_one n.kids) c (List.mem_of_mem_take hc)) (by omega) rfl hRi.size (fun v1i wq g1i hB1i hq hg1 => ?_)
            obtain ⟨ad1i, cap1i, rfl, _⟩ := id hB1i
            have hRi := hRi.trans hq
            have hsrci := hsrci.ext hq
            refine ⟨Keep.ext hRi, ?_⟩
            repeat (first | refine uM ?_ | refine uR ?_ | refine uE ?_ | refine uB ?_ | refine uA ?_ | refine uD ?_ | refine jC ?_ | refine jN ?_ | refine jS ?_ | refine jR ?_ | refine jT ?_ | refine jB ?_ | refine jX rfl ?_ | refine jY rfl ?_ | refine jK ?_ | refine jD ?_ | refine jE ?_)
            refine AppV.bufS hB1i (by omega) hsrci rfl (by simp [Value.oneCell']) (fun _ => trivial) (by omega) (by omega) rfl hRi.size (Nat.le_refl _) (fun v2i wq g2i hB2i hc2i hw2i => ?_)
            obtain ⟨ad2i, cap2i, rfl, _⟩ := id hB2i
            have hR2i : Vc.Ext ws wq := by
              rcases hw2i with ⟨e, e0, rfl⟩ | ⟨_, hq⟩
              · exact hRi.trans' (below_setL (Below.refl _ _) (hB1i.blk e0).1 _ _)
              · exact hRi.trans hq
            have hgB2i := (hB2i.blk hc2i).1
            refine ⟨Keep.ext hR2i, ?_⟩
            repeat (first | refine uM ?_ | refine uR ?_ | refine uE ?_ | refine uB ?_ | refine uA ?_ | refine uD ?_ | refine jC ?_ | refine jN ?_ | refine jS ?_ | refine jR ?_ | refine jT ?_ | refine jB ?_ | refine jX rfl ?_ | refine jY rfl ?_ | refine jK ?_ | refine jD ?_ | refine jE ?_)
            refine AppV.bufR (news := (ints n.kids).drop k) hB2i hc2i ((Row1.dropV (k := k) (xs := ints n.kids) hN.2 (by omega)).ext (hxs.trans hR2i)) (fun c hc => (ints_one n.kids) c (List.mem_of_mem_drop hc)) trivial (by omega) (by omega) rfl hR2i.size (Nat.le_refl _) (fun v3i wfi g3i hB3i hc3s' hw3i => ?_)
            obtain ⟨ad3i, cap3i, rfl, _⟩ := id hB3i
            have hR3i : Vc.Ext ws wfi := by
              rcases hw3i with ⟨e, rfl⟩ | ⟨_, hq⟩
              · exact hR2i.trans' (below_setL (Below.refl _ _) hgB2i _ _)
              · exact hR2i.trans hq
            have hB4i : BufS ws.heap.size wfi.heap.size wfi (.slice ad3i (k + 1 + (n.kids.length - k)) cap3i) (k + 1 + (n.kids.length - k)) 1 (ints (n.kids.take k ++ kid :: n.kids.drop k)) g3i := by
              have e : ints (n.kids.take k ++ kid :: n.kids.drop k) = (ints n.kids).take k ++ [(.int .i64 kid : Value)] ++ (ints n.kids).drop k := by simp [List.map_append, List.map_take, List.map_drop]
              rw [e]; exact hB3i
            have hgBi := hB3i.blk hc3s'
            refine ⟨Keep.ext hR3i, ?_⟩
            repeat (first | refine uM ?_ | refine uR ?_ | refine uE ?_ | refine uB ?_ | refine uA ?_ | refine uD ?_ | refine jC ?_ | refine jN ?_ | refine jS ?_ | refine jR ?_ | refine jT ?_ | refine jB ?_ | refine jX rfl ?_ | refine jY rfl ?_ | refine jK ?_ | refine jD ?_ | refine jE ?_)
            have hm8fi := hm8s.ext hR3i
            refine ⟨by have := hm8fi.sub (k := 6) (m := 1) (by omega); rwa [Nat.zero_add] at this, trivial, rfl, by simp [Value.oneCell'], ?_⟩
            repeat (first | refine uM ?_ | refine uR ?_ | refine uE ?_ | refine uB ?_ | refine uA ?_ | refine uD ?_ | refine jC ?_ | refine jN ?_ | refine jS ?_ | refine jR ?_ | refine jT ?_ | refine jB ?_ | refine jX rfl ?_ | refine jY rfl ?_ | refine jK ?_ | refine jD ?_ | refine jE ?_)
            have hXi : ExcP (fun j => j = b8) wfi (setL wfi b8 (0 + 6) [Value.slice ad3i (k + 1 + (n.kids.length - k)) cap3i]) := (ExcP.refl (fun j => j = b8) wfi).setL (S := fun j => j = b8) rfl _ _
            have hsi := hR3i.size
            have hc8i := ((hc8s.ext hR3i).setAt (x := Value.slice ad3i (k + 1 + (n.kids.length - k)) cap3i) (hm8fi.sub (k := 6) (m := 1) (by omega)) (by simp))
            have hm6i := (hm6s.ext hR3i).exc (by omega) hXi (fun e => h68 e)
            have hxi : Vc.Ext w (setL wfi b8 (0 + 6) [Value.slice ad3i (k + 1 + (n.kids.length - k)) cap3i]) := (hxs.trans hR3i).trans' (hXi.below (by have := hxr.size; omega) fun j hj e => by omega)
            have hBn := ((hBs.ext (hi' := wfi.heap.size) hR3i hsi).exc (hi' := (setL wfi b8 (0 + 6) [Value.slice ad3i (k + 1 + (n.kids.length - k)) cap3i]).heap.size) hXi (fun _ e => by omega) (Nat.le_refl _) (by rw [setL_size]; exact Nat.le_refl _))
            have hBi := hB4i.exc (hi' := (setL wfi b8 (0 + 6) [Value.slice ad3i (k + 1 + (n.kids.length - k)) cap3i]).heap.size) hXi (fun _ e => by omega) (Nat.le_refl _) (by rw [setL_size]; exact Nat.le_refl _)
            have hwi : wfi.heap.size ≤ (setL wfi b8 (0 + 6) [Value.slice ad3i (k + 1 + (n.kids.length - k)) cap3i]).heap.size := by rw [setL_size]; exact Nat.le_refl _
            generalize (setL wfi b8 (0 + 6) [Value.slice ad3i (k + 1 + (n.kids.length - k)) cap3i]) = wt at hc8i hm6i hxi hBn hBi hwi hXi ⊢
            refine LdN.mk hc8i rfl ?_
            repeat (first | refine jC ?_ | refine jN ?_ | refine jS ?_ | refine jR ?_ | refine jT ?_ | refine jB ?_ | refine jX rfl ?_ | refine jY rfl ?_ | refine jK ?_ | refine jD ?_ | refine jE ?_)
            refine ⟨hm6i, trivial, rfl, by simp [Value.oneCell'], ?_⟩
            repeat (first | refine jC ?_ | refine jN ?_ | refine jS ?_ | refine jR ?_ | refine jT ?_ | refine jB ?_ | refine jX rfl ?_ | refine jY rfl ?_ | refine jK ?_ | refine jD ?_ | refine jE ?_)
            have hXt : ExcP (fun j => j = b6) wt (setL wt b6 0 _) := (ExcP.refl (fun j => j = b6) wt).setL (S := fun j => j = b6) rfl (n.cells (Value.slice ad3s (k + 1 + (n.names.length - k)) cap3s) (Value.slice ad3i (k + 1 + (n.kids.length - k)) cap3i)) 0
            refine LdN.mk (CellsAt.setL_in (l := n.cells (Value.slice ad3s (k + 1 + (n.names.length - k)) cap3s) (Value.slice ad3i (k + 1 + (n.kids.length - k)) cap3i)) hm6i) rfl ?_
            repeat (first | refine jC ?_ | refine jN ?_ | refine jS ?_ | refine jR ?_ | refine jT ?_ | refine jB ?_ | refine jX rfl ?_ | refine jY rfl ?_ | refine jK ?_ | refine jD ?_ | refine jE ?_)
            have hput : n.put x kid = { n with names := n.names.take k ++ x :: n.names.drop k, kids := n.kids.take k ++ kid :: n.kids.drop k } := by rw [hg]; rfl
            have hl1 : (n.put x kid).names.length = k + 1 + (n.names.length - k) := by
              rw [hput]; simp only [List.length_append, List.length_cons, List.length_take, List.length_drop]; omega
            have hl2 : (n.put x kid).kids.length = k + 1 + (n.kids.length - k) := by
              rw [hput]; simp only [List.length_append, List.length_cons, List.length_take, List.length_drop]; omega
            have hsx := hxr.size
            refine EndV.mk fun w' hw' => ⟨_, rfl, ⟨Value.slice ad3s (k + 1 + (n.names.length - k)) cap3s, Value.slice ad3i (k + 1 + (n.kids.length - k)) cap3i, g3s, g3i, rfl, ?_, ?_, by omega⟩, (hxi.trans' (hXt.below (by omega) fun j hj e => by omega)).trans hw'⟩
            · rw [hl1, hput]
              exact ((hBn.exc (hi' := (setL wt b6 0 (n.cells (Value.slice ad3s (k + 1 + (n.names.length - k)) cap3s) (Value.slice ad3i (k + 1 + (n.kids.length - k)) cap3i))).heap.size) hXt (fun _ e => by omega) (Nat.le_refl _) hXt.size).ext hw' hw'.size).low (by omega)
            · rw [hl2, hput]
              exact ((hBi.exc (hi' := (setL wt b6 0 (n.cells (Value.slice ad3s (k + 1 + (n.names.length - k)) cap3s) (Value.slice ad3i (k + 1 + (n.kids.length - k)) cap3i))).heap.size) hXt (fun _ e => by omega) (Nat.le_refl _) hXt.size).ext hw' hw'.size).low (by omega)
        · refine WpE.ef (by exact rfl) (by exact rfl) ?_
          refine Made.mk fun gli wq hq _ _ hlc _ => ?_
          have hRi := hRi.trans hq
          have hsrci : CellsAt wq gli 0 [(.int .i64 kid : Value)] := CellsAt.of_block hlc (fun i v hi => by simpa using hi)
          refine ⟨Keep.ext hRi, ?_⟩
          repeat (first | refine uM ?_ | refine uR ?_ | refine uE ?_ | refine uB ?_ | refine uA ?_ | refine uD ?_ | refine jC ?_ | refine jN ?_ | refine jS ?_ | refine jR ?_ | refine jT ?_ | refine jB ?_ | refine jX rfl ?_ | refine jY rfl ?_ | refine jK ?_ | refine jD ?_ | refine jE ?_)
          refine Made.mk fun g0i wq hq _ _ _ _ => ?_
          have hRi := hRi.trans hq
          have hsrci := hsrci.ext hq
          refine ⟨Keep.ext hRi, ?_⟩
          repeat (first | refine uM ?_ | refine uR ?_ | refine uE ?_ | refine uB ?_ | refine uA ?_ | refine uD ?_ | refine jC ?_ | refine jN ?_ | refine jS ?_ | refine jR ?_ | refine jT ?_ | refine jB ?_ | refine jX rfl ?_ | refine jY rfl ?_ | refine jK ?_ | refine jD ?_ | refine jE ?_)
          refine AppV.copyH (lo := ws.heap.size) (xs := (ints n.kids).take k) trivial ((Row1.takeV (k := k) (xs := ints n.kids) hN.2 (by omega)).ext (hxs.trans hRi)) (fun c hc => (ints_one n.kids) c (List.mem_of_mem_take hc)) (by omega) rfl hRi.size (fun v1i wq g1i hB1i hq hg1 => ?_)
          obtain ⟨ad1i, cap1i, rfl, _⟩ := id hB1i
          have hRi := hRi.trans hq
          have hsrci := hsrci.ext hq
          refine ⟨Keep.ext hRi, ?_⟩
          repeat (first | refine uM ?_ | refine uR ?_ | refine uE ?_ | refine uB ?_ | refine uA ?_ | refine uD ?_ | refine jC ?_ | refine jN ?_ | refine jS ?_ | refine jR ?_ | refine jT ?_ | refine jB ?_ | refine jX rfl ?_ | refine jY rfl ?_ | refine jK ?_ | refine jD ?_ | refine jE ?_)
          refine AppV.bufS hB1i (by omega) hsrci rfl (by simp [Value.oneCell']) (fun _ => trivial) (by omega) (by omega) rfl hRi.size (Nat.le_refl _) (fun v2i wq g2i hB2i hc2i hw2i => ?_)
          obtain ⟨ad2i, cap2i, rfl, _⟩ := id hB2i
          have hR2i : Vc.Ext ws wq := by
            rcases hw2i with ⟨e, e0, rfl⟩ | ⟨_, hq⟩
            · exact hRi.trans' (below_setL (Below.refl _ _) (hB1i.blk e0).1 _ _)
            · exact hRi.trans hq
          have hgB2i := (hB2i.blk hc2i).1
          refine ⟨Keep.ext hR2i, ?_⟩
          repeat (first | refine uM ?_ | refine uR ?_ | refine uE ?_ | refine uB ?_ | refine uA ?_ | refine uD ?_ | refine jC ?_ | refine jN ?_ | refine jS ?_ | refine jR ?_ | refine jT ?_ | refine jB ?_ | refine jX rfl ?_ | refine jY rfl ?_ | refine jK ?_ | refine jD ?_ | refine jE ?_)
          refine AppV.bufR (news := (ints n.kids).drop k) hB2i hc2i ((Row1.dropV (k := k) (xs := ints n.kids) hN.2 (by omega)).ext (hxs.trans hR2i)) (fun c hc => (ints_one n.kids) c (List.mem_of_mem_drop hc)) trivial (by omega) (by omega) rfl hR2i.size (Nat.le_refl _) (fun v3i wfi g3i hB3i hc3s' hw3i => ?_)
          obtain ⟨ad3i, cap3i, rfl, _⟩ := id hB3i
          have hR3i : Vc.Ext ws wfi := by
            rcases hw3i with ⟨e, rfl⟩ | ⟨_, hq⟩
            · exact hR2i.trans' (below_setL (Below.refl _ _) hgB2i _ _)
            · exact hR2i.trans hq
          have hB4i : BufS ws.heap.size wfi.heap.size wfi (.slice ad3i (k + 1 + (n.kids.length - k)) cap3i) (k + 1 + (n.kids.length - k)) 1 (ints (n.kids.take k ++ kid :: n.kids.drop k)) g3i := by
            have e : ints (n.kids.take k ++ kid :: n.kids.drop k) = (ints n.kids).take k ++ [(.int .i64 kid : Value)] ++ (ints n.kids).drop k := by simp [List.map_append, List.map_take, List.map_drop]
            rw [e]; exact hB3i
          have hgBi := hB3i.blk hc3s'
          refine ⟨Keep.ext hR3i, ?_⟩
          repeat (first | refine uM ?_ | refine uR ?_ | refine uE ?_ | refine uB ?_ | refine uA ?_ | refine uD ?_ | refine jC ?_ | refine jN ?_ | refine jS ?_ | refine jR ?_ | refine jT ?_ | refine jB ?_ | refine jX rfl ?_ | refine jY rfl ?_ | refine jK ?_ | refine jD ?_ | refine jE ?_)
          have hm8fi := hm8s.ext hR3i
          refine ⟨by have := hm8fi.sub (k := 6) (m := 1) (by omega); rwa [Nat.zero_add] at this, trivial, rfl, by simp [Value.oneCell'], ?_⟩
          repeat (first | refine uM ?_ | refine uR ?_ | refine uE ?_ | refine uB ?_ | refine uA ?_ | refine uD ?_ | refine jC ?_ | refine jN ?_ | refine jS ?_ | refine jR ?_ | refine jT ?_ | refine jB ?_ | refine jX rfl ?_ | refine jY rfl ?_ | refine jK ?_ | refine jD ?_ | refine jE ?_)
          have hXi : ExcP (fun j => j = b8) wfi (setL wfi b8 (0 + 6) [Value.slice ad3i (k + 1 + (n.kids.length - k)) cap3i]) := (ExcP.refl (fun j => j = b8) wfi).setL (S := fun j => j = b8) rfl _ _
          have hsi := hR3i.size
          have hc8i := ((hc8s.ext hR3i).setAt (x := Value.slice ad3i (k + 1 + (n.kids.length - k)) cap3i) (hm8fi.sub (k := 6) (m := 1) (by omega)) (by simp))
          have hm6i := (hm6s.ext hR3i).exc (by omega) hXi (fun e => h68 e)
          have hxi : Vc.Ext w (setL wfi b8 (0 + 6) [Value.slice ad3i (k + 1 + (n.kids.length - k)) cap3i]) := (hxs.trans hR3i).trans' (hXi.below (by have := hxr.size; omega) fun j hj e => by omega)
          have hBn := ((hBs.ext (hi' := wfi.heap.size) hR3i hsi).exc (hi' := (setL wfi b8 (0 + 6) [Value.slice ad3i (k + 1 + (n.kids.length - k)) cap3i]).heap.size) hXi (fun _ e => by omega) (Nat.le_refl _) (by rw [setL_size]; exact Nat.le_refl _))
          have hBi := hB4i.exc (hi' := (setL wfi b8 (0 + 6) [Value.slice ad3i (k + 1 + (n.kids.length - k)) cap3i]).heap.size) hXi (fun _ e => by omega) (Nat.le_refl _) (by rw [setL_size]; exact Nat.le_refl _)
          have hwi : wfi.heap.size ≤ (setL wfi b8 (0 + 6) [Value.slice ad3i (k + 1 + (n.kids.length - k)) cap3i]).heap.size := by rw [setL_size]; exact Nat.le_refl _
          generalize (setL wfi b8 (0 + 6) [Value.slice ad3i (k + 1 + (n.kids.length - k)) cap3i]) = wt at hc8i hm6i hxi hBn hBi hwi hXi ⊢
          refine LdN.mk hc8i rfl ?_
          repeat (first | refine jC ?_ | refine jN ?_ | refine jS ?_ | refine jR ?_ | refine jT ?_ | refine jB ?_ | refine jX rfl ?_ | refine jY rfl ?_ | refine jK ?_ | refine jD ?_ | refine jE ?_)
          refine ⟨hm6i, trivial, rfl, by simp [Value.oneCell'], ?_⟩
          repeat (first | refine jC ?_ | refine jN ?_ | refine jS ?_ | refine jR ?_ | refine jT ?_ | refine jB ?_ | refine jX rfl ?_ | refine jY rfl ?_ | refine jK ?_ | refine jD ?_ | refine jE ?_)
          have hXt : ExcP (fun j => j = b6) wt (setL wt b6 0 _) := (ExcP.refl (fun j => j = b6) wt).setL (S := fun j => j = b6) rfl (n.cells (Value.slice ad3s (k + 1 + (n.names.length - k)) cap3s) (Value.slice ad3i (k + 1 + (n.kids.length - k)) cap3i)) 0
          refine LdN.mk (CellsAt.setL_in (l := n.cells (Value.slice ad3s (k + 1 + (n.names.length - k)) cap3s) (Value.slice ad3i (k + 1 + (n.kids.length - k)) cap3i)) hm6i) rfl ?_
          repeat (first | refine jC ?_ | refine jN ?_ | refine jS ?_ | refine jR ?_ | refine jT ?_ | refine jB ?_ | refine jX rfl ?_ | refine jY rfl ?_ | refine jK ?_ | refine jD ?_ | refine jE ?_)
          have hput : n.put x kid = { n with names := n.names.take k ++ x :: n.names.drop k, kids := n.kids.take k ++ kid :: n.kids.drop k } := by rw [hg]; rfl
          have hl1 : (n.put x kid).names.length = k + 1 + (n.names.length - k) := by
            rw [hput]; simp only [List.length_append, List.length_cons, List.length_take, List.length_drop]; omega
          have hl2 : (n.put x kid).kids.length = k + 1 + (n.kids.length - k) := by
            rw [hput]; simp only [List.length_append, List.length_cons, List.length_take, List.length_drop]; omega
          have hsx := hxr.size
          refine EndV.mk fun w' hw' => ⟨_, rfl, ⟨Value.slice ad3s (k + 1 + (n.names.length - k)) cap3s, Value.slice ad3i (k + 1 + (n.kids.length - k)) cap3i, g3s, g3i, rfl, ?_, ?_, by omega⟩, (hxi.trans' (hXt.below (by omega) fun j hj e => by omega)).trans hw'⟩
          · rw [hl1, hput]
            exact ((hBn.exc (hi' := (setL wt b6 0 (n.cells (Value.slice ad3s (k + 1 + (n.names.length - k)) cap3s) (Value.slice ad3i (k + 1 + (n.kids.length - k)) cap3i))).heap.size) hXt (fun _ e => by omega) (Nat.le_refl _) hXt.size).ext hw' hw'.size).low (by omega)
          · rw [hl2, hput]
            exact ((hBi.exc (hi' := (setL wt b6 0 (n.cells (Value.slice ad3s (k + 1 + (n.names.length - k)) cap3s) (Value.slice ad3i (k + 1 + (n.kids.length - k)) cap3i))).heap.size) hXt (fun _ e => by omega) (Nat.le_refl _) hXt.size).ext hw' hw'.size).low (by omega)
    · refine WpE.ef (by exact rfl) (by exact rfl) ?_
      refine Made.mk fun gls wq hq _ _ hlc _ => ?_
      have hRs := hRs.trans hq
      have hsrcs : CellsAt wq gls 0 [(.string x : Value)] := CellsAt.of_block hlc (fun i v hi => by simpa using hi)
      refine ⟨Keep.ext hRs, ?_⟩
      repeat (first | refine uM ?_ | refine uR ?_ | refine uE ?_ | refine uB ?_ | refine uA ?_ | refine uD ?_ | refine jC ?_ | refine jN ?_ | refine jS ?_ | refine jR ?_ | refine jT ?_ | refine jB ?_ | refine jX rfl ?_ | refine jY rfl ?_ | refine jK ?_ | refine jD ?_ | refine jE ?_)
      refine Made.mk fun g0s wq hq _ _ _ _ => ?_
      have hRs := hRs.trans hq
      have hsrcs := hsrcs.ext hq
      refine ⟨Keep.ext hRs, ?_⟩
      repeat (first | refine uM ?_ | refine uR ?_ | refine uE ?_ | refine uB ?_ | refine uA ?_ | refine uD ?_ | refine jC ?_ | refine jN ?_ | refine jS ?_ | refine jR ?_ | refine jT ?_ | refine jB ?_ | refine jX rfl ?_ | refine jY rfl ?_ | refine jK ?_ | refine jD ?_ | refine jE ?_)
      refine AppV.copyH (lo := wr.heap.size) (xs := (strs n.names).take k) trivial ((Row1.takeV (k := k) (xs := strs n.names) hN.1 (by omega)).ext (hxr.trans hRs)) (fun c hc => (strs_one n.names) c (List.mem_of_mem_take hc)) (by omega) rfl hRs.size (fun v1s wq g1s hB1s hq hg1 => ?_)
      obtain ⟨ad1s, cap1s, rfl, _⟩ := id hB1s
      have hRs := hRs.trans hq
      have hsrcs := hsrcs.ext hq
      refine ⟨Keep.ext hRs, ?_⟩
      repeat (first | refine uM ?_ | refine uR ?_ | refine uE ?_ | refine uB ?_ | refine uA ?_ | refine uD ?_ | refine jC ?_ | refine jN ?_ | refine jS ?_ | refine jR ?_ | refine jT ?_ | refine jB ?_ | refine jX rfl ?_ | refine jY rfl ?_ | refine jK ?_ | refine jD ?_ | refine jE ?_)
      refine AppV.bufS hB1s (by omega) hsrcs rfl (by simp [Value.oneCell']) (fun _ => trivial) (by omega) (by omega) rfl hRs.size (Nat.le_refl _) (fun v2s wq g2s hB2s hc2s hw2s => ?_)
      obtain ⟨ad2s, cap2s, rfl, _⟩ := id hB2s
      have hR2s : Vc.Ext wr wq := by
        rcases hw2s with ⟨e, e0, rfl⟩ | ⟨_, hq⟩
        · exact hRs.trans' (below_setL (Below.refl _ _) (hB1s.blk e0).1 _ _)
        · exact hRs.trans hq
      have hgB2s := (hB2s.blk hc2s).1
      refine ⟨Keep.ext hR2s, ?_⟩
      repeat (first | refine uM ?_ | refine uR ?_ | refine uE ?_ | refine uB ?_ | refine uA ?_ | refine uD ?_ | refine jC ?_ | refine jN ?_ | refine jS ?_ | refine jR ?_ | refine jT ?_ | refine jB ?_ | refine jX rfl ?_ | refine jY rfl ?_ | refine jK ?_ | refine jD ?_ | refine jE ?_)
      refine AppV.bufR (news := (strs n.names).drop k) hB2s hc2s ((Row1.dropV (k := k) (xs := strs n.names) hN.1 (by omega)).ext (hxr.trans hR2s)) (fun c hc => (strs_one n.names) c (List.mem_of_mem_drop hc)) trivial (by omega) (by omega) rfl hR2s.size (Nat.le_refl _) (fun v3s wfs g3s hB3s hc3' hw3s => ?_)
      obtain ⟨ad3s, cap3s, rfl, _⟩ := id hB3s
      have hR3s : Vc.Ext wr wfs := by
        rcases hw3s with ⟨e, rfl⟩ | ⟨_, hq⟩
        · exact hR2s.trans' (below_setL (Below.refl _ _) hgB2s _ _)
        · exact hR2s.trans hq
      have hB4s : BufS wr.heap.size wfs.heap.size wfs (.slice ad3s (k + 1 + (n.names.length - k)) cap3s) (k + 1 + (n.names.length - k)) 1 (strs (n.names.take k ++ x :: n.names.drop k)) g3s := by
        have e : strs (n.names.take k ++ x :: n.names.drop k) = (strs n.names).take k ++ [(.string x : Value)] ++ (strs n.names).drop k := by simp [List.map_append, List.map_take, List.map_drop]
        rw [e]; exact hB3s
      have hgBs := hB3s.blk hc3'
      refine ⟨Keep.ext hR3s, ?_⟩
      repeat (first | refine uM ?_ | refine uR ?_ | refine uE ?_ | refine uB ?_ | refine uA ?_ | refine uD ?_ | refine jC ?_ | refine jN ?_ | refine jS ?_ | refine jR ?_ | refine jT ?_ | refine jB ?_ | refine jX rfl ?_ | refine jY rfl ?_ | refine jK ?_ | refine jD ?_ | refine jE ?_)
      have hm8fs := hm8.ext hR3s
      refine ⟨by have := hm8fs.sub (k := 5) (m := 1) (by omega); rwa [Nat.zero_add] at this, trivial, rfl, by simp [Value.oneCell'], ?_⟩
      repeat (first | refine uM ?_ | refine uR ?_ | refine uE ?_ | refine uB ?_ | refine uA ?_ | refine uD ?_ | refine jC ?_ | refine jN ?_ | refine jS ?_ | refine jR ?_ | refine jT ?_ | refine jB ?_ | refine jX rfl ?_ | refine jY rfl ?_ | refine jK ?_ | refine jD ?_ | refine jE ?_)
      have hXs : ExcP (fun j => j = b8) wfs (setL wfs b8 (0 + 5) [Value.slice ad3s (k + 1 + (n.names.length - k)) cap3s]) := (ExcP.refl (fun j => j = b8) wfs).setL (S := fun j => j = b8) rfl _ _
      have hm8s : MutN (setL wfs b8 (0 + 5) [Value.slice ad3s (k + 1 + (n.names.length - k)) cap3s]) b8 0 7 := MutN.setL _ _ _ hm8fs
      have hc8s := ((hc8.ext hR3s).setAt (x := Value.slice ad3s (k + 1 + (n.names.length - k)) cap3s) (hm8fs.sub (k := 5) (m := 1) (by omega)) (by simp))
      have hsr := hR3s.size
      have hc3s := (hc3.ext hR3s).exc (by omega) hXs (fun e => h38 e)
      have hm6s := (hm6.ext hR3s).exc (by omega) hXs (fun e => h68 e)
      have hxs : Vc.Ext w (setL wfs b8 (0 + 5) [Value.slice ad3s (k + 1 + (n.names.length - k)) cap3s]) := (hxr.trans hR3s).trans' (hXs.below (by have := hxr.size; omega) fun j hj e => by omega)
      have hBs := hB4s.exc (hi' := (setL wfs b8 (0 + 5) [Value.slice ad3s (k + 1 + (n.names.length - k)) cap3s]).heap.size) hXs (fun _ e => by omega) (Nat.le_refl _) (by rw [setL_size]; exact Nat.le_refl _)
      have hwl : wfs.heap.size ≤ (setL wfs b8 (0 + 5) [Value.slice ad3s (k + 1 + (n.names.length - k)) cap3s]).heap.size := by rw [setL_size]; exact Nat.le_refl _
      generalize (setL wfs b8 (0 + 5) [Value.slice ad3s (k + 1 + (n.names.length - k)) cap3s]) = ws at hm8s hc8s hc3s hm6s hxs hBs hwl hXs ⊢
      have hxr0 := hxs
      refine WpC.drawE (.st 1 (.st 2 (.st 3 (.st 4 (.st 6 (.st 9 (.st 10 (.st 11 (.st 12 (.ef 0 (.ef 5 (.ef 7 (.ef 8 (.ef 13 (.st 14 (.ef 15 .done .done)) .done) .done) .done) (.ef 7 (.ef 5 (.ef 8 (.ef 13 (.st 14 (.ef 15 .done .done)) .done) .done) .done) .done)) (.ef 7 (.ef 0 (.ef 5 (.ef 8 (.ef 13 (.st 14 (.ef 15 .done .done)) .done) .done) .done) .done) .done))))))))))) [(0, .ef), (3, .mv), (5, .ef), (6, .mv), (7, .ef), (8, .ef), (11, .mv), (13, .ef), (15, .br)] (by kernel_rfl) ?_
      repeat (first | refine uM ?_ | refine uR ?_ | refine uE ?_ | refine uB ?_ | refine uA ?_ | refine uD ?_ | refine jC ?_ | refine jN ?_ | refine jS ?_ | refine jR ?_ | refine jT ?_ | refine jB ?_ | refine jX rfl ?_ | refine jY rfl ?_ | refine jK ?_ | refine jD ?_ | refine jE ?_)
      refine Ld.mk (hc3s.out 6 _ rfl) ?_
      repeat (first | refine uM ?_ | refine uR ?_ | refine uE ?_ | refine uB ?_ | refine uA ?_ | refine uD ?_ | refine jC ?_ | refine jN ?_ | refine jS ?_ | refine jR ?_ | refine jT ?_ | refine jB ?_ | refine jX rfl ?_ | refine jY rfl ?_ | refine jK ?_ | refine jD ?_ | refine jE ?_)
      refine ⟨k, rfl, by omega, ?_⟩
      repeat (first | refine uM ?_ | refine uR ?_ | refine uE ?_ | refine uB ?_ | refine uA ?_ | refine uD ?_ | refine jC ?_ | refine jN ?_ | refine jS ?_ | refine jR ?_ | refine jT ?_ | refine jB ?_ | refine jX rfl ?_ | refine jY rfl ?_ | refine jK ?_ | refine jD ?_ | refine jE ?_)
      refine Ld.mk (hc3s.out 6 _ rfl) ?_
      repeat (first | refine uM ?_ | refine uR ?_ | refine uE ?_ | refine uB ?_ | refine uA ?_ | refine uD ?_ | refine jC ?_ | refine jN ?_ | refine jS ?_ | refine jR ?_ | refine jT ?_ | refine jB ?_ | refine jX rfl ?_ | refine jY rfl ?_ | refine jK ?_ | refine jD ?_ | refine jE ?_)
      refine ⟨k, rfl, by omega, by omega, ?_⟩
      repeat (first | refine uM ?_ | refine uR ?_ | refine uE ?_ | refine uB ?_ | refine uA ?_ | refine uD ?_ | refine jC ?_ | refine jN ?_ | refine jS ?_ | refine jR ?_ | refine jT ?_ | refine jB ?_ | refine jX rfl ?_ | refine jY rfl ?_ | refine jK ?_ | refine jD ?_ | refine jE ?_)
      have hRi := Vc.Ext.refl ws
      refine WpE.ef2 (by exact rfl) (by exact rfl) ?_ ?_
      · skip
        refine Made.mk fun g0i wq hq _ _ _ _ => ?_
        have hRi := hRi.trans hq
        refine ⟨Keep.ext hRi, ?_⟩
        repeat (first | refine uM ?_ | refine uR ?_ | refine uE ?_ | refine uB ?_ | refine uA ?_ | refine uD ?_ | refine jC ?_ | refine jN ?_ | refine jS ?_ | refine jR ?_ | refine jT ?_ | refine jB ?_ | refine jX rfl ?_ | refine jY rfl ?_ | refine jK ?_ | refine jD ?_ | refine jE ?_)
        refine WpE.ef2 (by exact rfl) (by exact rfl) ?_ ?_
        · skip
          refine AppV.copyH (lo := ws.heap.size) (xs := (ints n.kids).take k) trivial ((Row1.takeV (k := k) (xs := ints n.kids) hN.2 (by omega)).ext (hxs.trans hRi)) (fun c hc => (ints_one n.kids) c (List.mem_of_mem_take hc)) (by omega) rfl hRi.size (fun v1i wq g1i hB1i hq hg1 => ?_)
          obtain ⟨ad1i, cap1i, rfl, _⟩ := id hB1i
          have hRi := hRi.trans hq
          refine ⟨Keep.ext hRi, ?_⟩
          repeat (first | refine uM ?_ | refine uR ?_ | refine uE ?_ | refine uB ?_ | refine uA ?_ | refine uD ?_ | refine jC ?_ | refine jN ?_ | refine jS ?_ | refine jR ?_ | refine jT ?_ | refine jB ?_ | refine jX rfl ?_ | refine jY rfl ?_ | refine jK ?_ | refine jD ?_ | refine jE ?_)
          refine Made.mk fun gli wq hq _ _ hlc _ => ?_
          have hRi := hRi.trans hq
          have hsrci : CellsAt wq gli 0 [(.int .i64 kid : Value)] := CellsAt.of_block hlc (fun i v hi => by simpa using hi)
          have hB1i := hB1i.ext hq hq.size
          refine ⟨Keep.ext hRi, ?_⟩
          repeat (first | refine uM ?_ | refine uR ?_ | refine uE ?_ | refine uB ?_ | refine uA ?_ | refine uD ?_ | refine jC ?_ | refine jN ?_ | refine jS ?_ | refine jR ?_ | refine jT ?_ | refine jB ?_ | refine jX rfl ?_ | refine jY rfl ?_ | refine jK ?_ | refine jD ?_ | refine jE ?_)
          refine AppV.bufS hB1i (by omega) hsrci rfl (by simp [Value.oneCell']) (fun _ => trivial) (by omega) (by omega) rfl hRi.size (Nat.le_refl _) (fun v2i wq g2i hB2i hc2i hw2i => ?_)
          obtain ⟨ad2i, cap2i, rfl, _⟩ := id hB2i
          have hR2i : Vc.Ext ws wq := by
            rcases hw2i with ⟨e, e0, rfl⟩ | ⟨_, hq⟩
            · exact hRi.trans' (below_setL (Below.refl _ _) (hB1i.blk e0).1 _ _)
            · exact hRi.trans hq
          have hgB2i := (hB2i.blk hc2i).1
          refine ⟨Keep.ext hR2i, ?_⟩
          repeat (first | refine uM ?_ | refine uR ?_ | refine uE ?_ | refine uB ?_ | refine uA ?_ | refine uD ?_ | refine jC ?_ | refine jN ?_ | refine jS ?_ | refine jR ?_ | refine jT ?_ | refine jB ?_ | refine jX rfl ?_ | refine jY rfl ?_ | refine jK ?_ | refine jD ?_ | refine jE ?_)
          refine AppV.bufR (news := (ints n.kids).drop k) hB2i hc2i ((Row1.dropV (k := k) (xs := ints n.kids) hN.2 (by omega)).ext (hxs.trans hR2i)) (fun c hc => (ints_one n.kids) c (List.mem_of_mem_drop hc)) trivial (by omega) (by omega) rfl hR2i.size (Nat.le_refl _) (fun v3i wfi g3i hB3i hc3s' hw3i => ?_)
          obtain ⟨ad3i, cap3i, rfl, _⟩ := id hB3i
          have hR3i : Vc.Ext ws wfi := by
            rcases hw3i with ⟨e, rfl⟩ | ⟨_, hq⟩
            · exact hR2i.trans' (below_setL (Below.refl _ _) hgB2i _ _)
            · exact hR2i.trans hq
          have hB4i : BufS ws.heap.size wfi.heap.size wfi (.slice ad3i (k + 1 + (n.kids.length - k)) cap3i) (k + 1 + (n.kids.length - k)) 1 (ints (n.kids.take k ++ kid :: n.kids.drop k)) g3i := by
            have e : ints (n.kids.take k ++ kid :: n.kids.drop k) = (ints n.kids).take k ++ [(.int .i64 kid : Value)] ++ (ints n.kids).drop k := by simp [List.map_append, List.map_take, List.map_drop]
            rw [e]; exact hB3i
          have hgBi := hB3i.blk hc3s'
          refine ⟨Keep.ext hR3i, ?_⟩
          repeat (first | refine uM ?_ | refine uR ?_ | refine uE ?_ | refine uB ?_ | refine uA ?_ | refine uD ?_ | refine jC ?_ | refine jN ?_ | refine jS ?_ | refine jR ?_ | refine jT ?_ | refine jB ?_ | refine jX rfl ?_ | refine jY rfl ?_ | refine jK ?_ | refine jD ?_ | refine jE ?_)
          have hm8fi := hm8s.ext hR3i
          refine ⟨by have := hm8fi.sub (k := 6) (m := 1) (by omega); rwa [Nat.zero_add] at this, trivial, rfl, by simp [Value.oneCell'], ?_⟩
          repeat (first | refine uM ?_ | refine uR ?_ | refine uE ?_ | refine uB ?_ | refine uA ?_ | refine uD ?_ | refine jC ?_ | refine jN ?_ | refine jS ?_ | refine jR ?_ | refine jT ?_ | refine jB ?_ | refine jX rfl ?_ | refine jY rfl ?_ | refine jK ?_ | refine jD ?_ | refine jE ?_)
          have hXi : ExcP (fun j => j = b8) wfi (setL wfi b8 (0 + 6) [Value.slice ad3i (k + 1 + (n.kids.length - k)) cap3i]) := (ExcP.refl (fun j => j = b8) wfi).setL (S := fun j => j = b8) rfl _ _
          have hsi := hR3i.size
          have hc8i := ((hc8s.ext hR3i).setAt (x := Value.slice ad3i (k + 1 + (n.kids.length - k)) cap3i) (hm8fi.sub (k := 6) (m := 1) (by omega)) (by simp))
          have hm6i := (hm6s.ext hR3i).exc (by omega) hXi (fun e => h68 e)
          have hxi : Vc.Ext w (setL wfi b8 (0 + 6) [Value.slice ad3i (k + 1 + (n.kids.length - k)) cap3i]) := (hxs.trans hR3i).trans' (hXi.below (by have := hxr.size; omega) fun j hj e => by omega)
          have hBn := ((hBs.ext (hi' := wfi.heap.size) hR3i hsi).exc (hi' := (setL wfi b8 (0 + 6) [Value.slice ad3i (k + 1 + (n.kids.length - k)) cap3i]).heap.size) hXi (fun _ e => by omega) (Nat.le_refl _) (by rw [setL_size]; exact Nat.le_refl _))
          have hBi := hB4i.exc (hi' := (setL wfi b8 (0 + 6) [Value.slice ad3i (k + 1 + (n.kids.length - k)) cap3i]).heap.size) hXi (fun _ e => by omega) (Nat.le_refl _) (by rw [setL_size]; exact Nat.le_refl _)
          have hwi : wfi.heap.size ≤ (setL wfi b8 (0 + 6) [Value.slice ad3i (k + 1 + (n.kids.length - k)) cap3i]).heap.size := by rw [setL_size]; exact Nat.le_refl _
          generalize (setL wfi b8 (0 + 6) [Value.slice ad3i (k + 1 + (n.kids.length - k)) cap3i]) = wt at hc8i hm6i hxi hBn hBi hwi hXi ⊢
          refine LdN.mk hc8i rfl ?_
          repeat (first | refine jC ?_ | refine jN ?_ | refine jS ?_ | refine jR ?_ | refine jT ?_ | refine jB ?_ | refine jX rfl ?_ | refine jY rfl ?_ | refine jK ?_ | refine jD ?_ | refine jE ?_)
          refine ⟨hm6i, trivial, rfl, by simp [Value.oneCell'], ?_⟩
          repeat (first | refine jC ?_ | refine jN ?_ | refine jS ?_ | refine jR ?_ | refine jT ?_ | refine jB ?_ | refine jX rfl ?_ | refine jY rfl ?_ | refine jK ?_ | refine jD ?_ | refine jE ?_)
          have hXt : ExcP (fun j => j = b6) wt (setL wt b6 0 _) := (ExcP.refl (fun j => j = b6) wt).setL (S := fun j => j = b6) rfl (n.cells (Value.slice ad3s (k + 1 + (n.names.length - k)) cap3s) (Value.slice ad3i (k + 1 + (n.kids.length - k)) cap3i)) 0
          refine LdN.mk (CellsAt.setL_in (l := n.cells (Value.slice ad3s (k + 1 + (n.names.length - k)) cap3s) (Value.slice ad3i (k + 1 + (n.kids.length - k)) cap3i)) hm6i) rfl ?_
          repeat (first | refine jC ?_ | refine jN ?_ | refine jS ?_ | refine jR ?_ | refine jT ?_ | refine jB ?_ | refine jX rfl ?_ | refine jY rfl ?_ | refine jK ?_ | refine jD ?_ | refine jE ?_)
          have hput : n.put x kid = { n with names := n.names.take k ++ x :: n.names.drop k, kids := n.kids.take k ++ kid :: n.kids.drop k } := by rw [hg]; rfl
          have hl1 : (n.put x kid).names.length = k + 1 + (n.names.length - k) := by
            rw [hput]; simp only [List.length_append, List.length_cons, List.length_take, List.length_drop]; omega
          have hl2 : (n.put x kid).kids.length = k + 1 + (n.kids.length - k) := by
            rw [hput]; simp only [List.length_append, List.length_cons, List.length_take, List.length_drop]; omega
          have hsx := hxr.size
          refine EndV.mk fun w' hw' => ⟨_, rfl, ⟨Value.slice ad3s (k + 1 + (n.names.length - k)) cap3s, Value.slice ad3i (k + 1 + (n.kids.length - k)) cap3i, g3s, g3i, rfl, ?_, ?_, by omega⟩, (hxi.trans' (hXt.below (by omega) fun j hj e => by omega)).trans hw'⟩
          · rw [hl1, hput]
            exact ((hBn.exc (hi' := (setL wt b6 0 (n.cells (Value.slice ad3s (k + 1 + (n.names.length - k)) cap3s) (Value.slice ad3i (k + 1 + (n.kids.length - k)) cap3i))).heap.size) hXt (fun _ e => by omega) (Nat.le_refl _) hXt.size).ext hw' hw'.size).low (by omega)
          · rw [hl2, hput]
            exact ((hBi.exc (hi' := (setL wt b6 0 (n.cells (Value.slice ad3s (k + 1 + (n.names.length - k)) cap3s) (Value.slice ad3i (k + 1 + (n.kids.length - k)) cap3i))).heap.size) hXt (fun _ e => by omega) (Nat.le_refl _) hXt.size).ext hw' hw'.size).low (by omega)
        · refine WpE.ef (by exact rfl) (by exact rfl) ?_
          refine Made.mk fun gli wq hq _ _ hlc _ => ?_
          have hRi := hRi.trans hq
          have hsrci : CellsAt wq gli 0 [(.int .i64 kid : Value)] := CellsAt.of_block hlc (fun i v hi => by simpa using hi)
          refine ⟨Keep.ext hRi, ?_⟩
          repeat (first | refine uM ?_ | refine uR ?_ | refine uE ?_ | refine uB ?_ | refine uA ?_ | refine uD ?_ | refine jC ?_ | refine jN ?_ | refine jS ?_ | refine jR ?_ | refine jT ?_ | refine jB ?_ | refine jX rfl ?_ | refine jY rfl ?_ | refine jK ?_ | refine jD ?_ | refine jE ?_)
          refine AppV.copyH (lo := ws.heap.size) (xs := (ints n.kids).take k) trivial ((Row1.takeV (k := k) (xs := ints n.kids) hN.2 (by omega)).ext (hxs.trans hRi)) (fun c hc => (ints_one n.kids) c (List.mem_of_mem_take hc)) (by omega) rfl hRi.size (fun v1i wq g1i hB1i hq hg1 => ?_)
          obtain ⟨ad1i, cap1i, rfl, _⟩ := id hB1i
          have hRi := hRi.trans hq
          have hsrci := hsrci.ext hq
          refine ⟨Keep.ext hRi, ?_⟩
          repeat (first | refine uM ?_ | refine uR ?_ | refine uE ?_ | refine uB ?_ | refine uA ?_ | refine uD ?_ | refine jC ?_ | refine jN ?_ | refine jS ?_ | refine jR ?_ | refine jT ?_ | refine jB ?_ | refine jX rfl ?_ | refine jY rfl ?_ | refine jK ?_ | refine jD ?_ | refine jE ?_)
          refine AppV.bufS hB1i (by omega) hsrci rfl (by simp [Value.oneCell']) (fun _ => trivial) (by omega) (by omega) rfl hRi.size (Nat.le_refl _) (fun v2i wq g2i hB2i hc2i hw2i => ?_)
          obtain ⟨ad2i, cap2i, rfl, _⟩ := id hB2i
          have hR2i : Vc.Ext ws wq := by
            rcases hw2i with ⟨e, e0, rfl⟩ | ⟨_, hq⟩
            · exact hRi.trans' (below_setL (Below.refl _ _) (hB1i.blk e0).1 _ _)
            · exact hRi.trans hq
          have hgB2i := (hB2i.blk hc2i).1
          refine ⟨Keep.ext hR2i, ?_⟩
          repeat (first | refine uM ?_ | refine uR ?_ | refine uE ?_ | refine uB ?_ | refine uA ?_ | refine uD ?_ | refine jC ?_ | refine jN ?_ | refine jS ?_ | refine jR ?_ | refine jT ?_ | refine jB ?_ | refine jX rfl ?_ | refine jY rfl ?_ | refine jK ?_ | refine jD ?_ | refine jE ?_)
          refine AppV.bufR (news := (ints n.kids).drop k) hB2i hc2i ((Row1.dropV (k := k) (xs := ints n.kids) hN.2 (by omega)).ext (hxs.trans hR2i)) (fun c hc => (ints_one n.kids) c (List.mem_of_mem_drop hc)) trivial (by omega) (by omega) rfl hR2i.size (Nat.le_refl _) (fun v3i wfi g3i hB3i hc3s' hw3i => ?_)
          obtain ⟨ad3i, cap3i, rfl, _⟩ := id hB3i
          have hR3i : Vc.Ext ws wfi := by
            rcases hw3i with ⟨e, rfl⟩ | ⟨_, hq⟩
            · exact hR2i.trans' (below_setL (Below.refl _ _) hgB2i _ _)
            · exact hR2i.trans hq
          have hB4i : BufS ws.heap.size wfi.heap.size wfi (.slice ad3i (k + 1 + (n.kids.length - k)) cap3i) (k + 1 + (n.kids.length - k)) 1 (ints (n.kids.take k ++ kid :: n.kids.drop k)) g3i := by
            have e : ints (n.kids.take k ++ kid :: n.kids.drop k) = (ints n.kids).take k ++ [(.int .i64 kid : Value)] ++ (ints n.kids).drop k := by simp [List.map_append, List.map_take, List.map_drop]
            rw [e]; exact hB3i
          have hgBi := hB3i.blk hc3s'
          refine ⟨Keep.ext hR3i, ?_⟩
          repeat (first | refine uM ?_ | refine uR ?_ | refine uE ?_ | refine uB ?_ | refine uA ?_ | refine uD ?_ | refine jC ?_ | refine jN ?_ | refine jS ?_ | refine jR ?_ | refine jT ?_ | refine jB ?_ | refine jX rfl ?_ | refine jY rfl ?_ | refine jK ?_ | refine jD ?_ | refine jE ?_)
          have hm8fi := hm8s.ext hR3i
          refine ⟨by have := hm8fi.sub (k := 6) (m := 1) (by omega); rwa [Nat.zero_add] at this, trivial, rfl, by simp [Value.oneCell'], ?_⟩
          repeat (first | refine uM ?_ | refine uR ?_ | refine uE ?_ | refine uB ?_ | refine uA ?_ | refine uD ?_ | refine jC ?_ | refine jN ?_ | refine jS ?_ | refine jR ?_ | refine jT ?_ | refine jB ?_ | refine jX rfl ?_ | refine jY rfl ?_ | refine jK ?_ | refine jD ?_ | refine jE ?_)
          have hXi : ExcP (fun j => j = b8) wfi (setL wfi b8 (0 + 6) [Value.slice ad3i (k + 1 + (n.kids.length - k)) cap3i]) := (ExcP.refl (fun j => j = b8) wfi).setL (S := fun j => j = b8) rfl _ _
          have hsi := hR3i.size
          have hc8i := ((hc8s.ext hR3i).setAt (x := Value.slice ad3i (k + 1 + (n.kids.length - k)) cap3i) (hm8fi.sub (k := 6) (m := 1) (by omega)) (by simp))
          have hm6i := (hm6s.ext hR3i).exc (by omega) hXi (fun e => h68 e)
          have hxi : Vc.Ext w (setL wfi b8 (0 + 6) [Value.slice ad3i (k + 1 + (n.kids.length - k)) cap3i]) := (hxs.trans hR3i).trans' (hXi.below (by have := hxr.size; omega) fun j hj e => by omega)
          have hBn := ((hBs.ext (hi' := wfi.heap.size) hR3i hsi).exc (hi' := (setL wfi b8 (0 + 6) [Value.slice ad3i (k + 1 + (n.kids.length - k)) cap3i]).heap.size) hXi (fun _ e => by omega) (Nat.le_refl _) (by rw [setL_size]; exact Nat.le_refl _))
          have hBi := hB4i.exc (hi' := (setL wfi b8 (0 + 6) [Value.slice ad3i (k + 1 + (n.kids.length - k)) cap3i]).heap.size) hXi (fun _ e => by omega) (Nat.le_refl _) (by rw [setL_size]; exact Nat.le_refl _)
          have hwi : wfi.heap.size ≤ (setL wfi b8 (0 + 6) [Value.slice ad3i (k + 1 + (n.kids.length - k)) cap3i]).heap.size := by rw [setL_size]; exact Nat.le_refl _
          generalize (setL wfi b8 (0 + 6) [Value.slice ad3i (k + 1 + (n.kids.length - k)) cap3i]) = wt at hc8i hm6i hxi hBn hBi hwi hXi ⊢
          refine LdN.mk hc8i rfl ?_
          repeat (first | refine jC ?_ | refine jN ?_ | refine jS ?_ | refine jR ?_ | refine jT ?_ | refine jB ?_ | refine jX rfl ?_ | refine jY rfl ?_ | refine jK ?_ | refine jD ?_ | refine jE ?_)
          refine ⟨hm6i, trivial, rfl, by simp [Value.oneCell'], ?_⟩
          repeat (first | refine jC ?_ | refine jN ?_ | refine jS ?_ | refine jR ?_ | refine jT ?_ | refine jB ?_ | refine jX rfl ?_ | refine jY rfl ?_ | refine jK ?_ | refine jD ?_ | refine jE ?_)
          have hXt : ExcP (fun j => j = b6) wt (setL wt b6 0 _) := (ExcP.refl (fun j => j = b6) wt).setL (S := fun j => j = b6) rfl (n.cells (Value.slice ad3s (k + 1 + (n.names.length - k)) cap3s) (Value.slice ad3i (k + 1 + (n.kids.length - k)) cap3i)) 0
          refine LdN.mk (CellsAt.setL_in (l := n.cells (Value.slice ad3s (k + 1 + (n.names.length - k)) cap3s) (Value.slice ad3i (k + 1 + (n.kids.length - k)) cap3i)) hm6i) rfl ?_
          repeat (first | refine jC ?_ | refine jN ?_ | refine jS ?_ | refine jR ?_ | refine jT ?_ | refine jB ?_ | refine jX rfl ?_ | refine jY rfl ?_ | refine jK ?_ | refine jD ?_ | refine jE ?_)
          have hput : n.put x kid = { n with names := n.names.take k ++ x :: n.names.drop k, kids := n.kids.take k ++ kid :: n.kids.drop k } := by rw [hg]; rfl
          have hl1 : (n.put x kid).names.length = k + 1 + (n.names.length - k) := by
            rw [hput]; simp only [List.length_append, List.length_cons, List.length_take, List.length_drop]; omega
          have hl2 : (n.put x kid).kids.length = k + 1 + (n.kids.length - k) := by
            rw [hput]; simp only [List.length_append, List.length_cons, List.length_take, List.length_drop]; omega
          have hsx := hxr.size
          refine EndV.mk fun w' hw' => ⟨_, rfl, ⟨Value.slice ad3s (k + 1 + (n.names.length - k)) cap3s, Value.slice ad3i (k + 1 + (n.kids.length - k)) cap3i, g3s, g3i, rfl, ?_, ?_, by omega⟩, (hxi.trans' (hXt.below (by omega) fun j hj e => by omega)).trans hw'⟩
          · rw [hl1, hput]
            exact ((hBn.exc (hi' := (setL wt b6 0 (n.cells (Value.slice ad3s (k + 1 + (n.names.length - k)) cap3s) (Value.slice ad3i (k + 1 + (n.kids.length - k)) cap3i))).heap.size) hXt (fun _ e => by omega) (Nat.le_refl _) hXt.size).ext hw' hw'.size).low (by omega)
          · rw [hl2, hput]
            exact ((hBi.exc (hi' := (setL wt b6 0 (n.cells (Value.slice ad3s (k + 1 + (n.names.length - k)) cap3s) (Value.slice ad3i (k + 1 + (n.kids.length - k)) cap3i))).heap.size) hXt (fun _ e => by omega) (Nat.le_refl _) hXt.size).ext hw' hw'.size).low (by omega)
      · refine WpE.ef (by exact rfl) (by exact rfl) ?_
        refine Made.mk fun gli wq hq _ _ hlc _ => ?_
        have hRi := hRi.trans hq
        have hsrci : CellsAt wq gli 0 [(.int .i64 kid : Value)] := CellsAt.of_block hlc (fun i v hi => by simpa using hi)
        refine ⟨Keep.ext hRi, ?_⟩
        repeat (first | refine uM ?_ | refine uR ?_ | refine uE ?_ | refine uB ?_ | refine uA ?_ | refine uD ?_ | refine jC ?_ | refine jN ?_ | refine jS ?_ | refine jR ?_ | refine jT ?_ | refine jB ?_ | refine jX rfl ?_ | refine jY rfl ?_ | refine jK ?_ | refine jD ?_ | refine jE ?_)
        refine Made.mk fun g0i wq hq _ _ _ _ => ?_
        have hRi := hRi.trans hq
        have hsrci := hsrci.ext hq
        refine ⟨Keep.ext hRi, ?_⟩
        repeat (first | refine uM ?_ | refine uR ?_ | refine uE ?_ | refine uB ?_ | refine uA ?_ | refine uD ?_ | refine jC ?_ | refine jN ?_ | refine jS ?_ | refine jR ?_ | refine jT ?_ | refine jB ?_ | refine jX rfl ?_ | refine jY rfl ?_ | refine jK ?_ | refine jD ?_ | refine jE ?_)
        refine AppV.copyH (lo := ws.heap.size) (xs := (ints n.kids).take k) trivial ((Row1.takeV (k := k) (xs := ints n.kids) hN.2 (by omega)).ext (hxs.trans hRi)) (fun c hc => (ints_one n.kids) c (List.mem_of_mem_take hc)) (by omega) rfl hRi.size (fun v1i wq g1i hB1i hq hg1 => ?_)
        obtain ⟨ad1i, cap1i, rfl, _⟩ := id hB1i
        have hRi := hRi.trans hq
        have hsrci := hsrci.ext hq
        refine ⟨Keep.ext hRi, ?_⟩
        repeat (first | refine uM ?_ | refine uR ?_ | refine uE ?_ | refine uB ?_ | refine uA ?_ | refine uD ?_ | refine jC ?_ | refine jN ?_ | refine jS ?_ | refine jR ?_ | refine jT ?_ | refine jB ?_ | refine jX rfl ?_ | refine jY rfl ?_ | refine jK ?_ | refine jD ?_ | refine jE ?_)
        refine AppV.bufS hB1i (by omega) hsrci rfl (by simp [Value.oneCell']) (fun _ => trivial) (by omega) (by omega) rfl hRi.size (Nat.le_refl _) (fun v2i wq g2i hB2i hc2i hw2i => ?_)
        obtain ⟨ad2i, cap2i, rfl, _⟩ := id hB2i
        have hR2i : Vc.Ext ws wq := by
          rcases hw2i with ⟨e, e0, rfl⟩ | ⟨_, hq⟩
          · exact hRi.trans' (below_setL (Below.refl _ _) (hB1i.blk e0).1 _ _)
          · exact hRi.trans hq
        have hgB2i := (hB2i.blk hc2i).1
        refine ⟨Keep.ext hR2i, ?_⟩
        repeat (first | refine uM ?_ | refine uR ?_ | refine uE ?_ | refine uB ?_ | refine uA ?_ | refine uD ?_ | refine jC ?_ | refine jN ?_ | refine jS ?_ | refine jR ?_ | refine jT ?_ | refine jB ?_ | refine jX rfl ?_ | refine jY rfl ?_ | refine jK ?_ | refine jD ?_ | refine jE ?_)
        refine AppV.bufR (news := (ints n.kids).drop k) hB2i hc2i ((Row1.dropV (k := k) (xs := ints n.kids) hN.2 (by omega)).ext (hxs.trans hR2i)) (fun c hc => (ints_one n.kids) c (List.mem_of_mem_drop hc)) trivial (by omega) (by omega) rfl hR2i.size (Nat.le_refl _) (fun v3i wfi g3i hB3i hc3s' hw3i => ?_)
        obtain ⟨ad3i, cap3i, rfl, _⟩ := id hB3i
        have hR3i : Vc.Ext ws wfi := by
          rcases hw3i with ⟨e, rfl⟩ | ⟨_, hq⟩
          · exact hR2i.trans' (below_setL (Below.refl _ _) hgB2i _ _)
          · exact hR2i.trans hq
        have hB4i : BufS ws.heap.size wfi.heap.size wfi (.slice ad3i (k + 1 + (n.kids.length - k)) cap3i) (k + 1 + (n.kids.length - k)) 1 (ints (n.kids.take k ++ kid :: n.kids.drop k)) g3i := by
          have e : ints (n.kids.take k ++ kid :: n.kids.drop k) = (ints n.kids).take k ++ [(.int .i64 kid : Value)] ++ (ints n.kids).drop k := by simp [List.map_append, List.map_take, List.map_drop]
          rw [e]; exact hB3i
        have hgBi := hB3i.blk hc3s'
        refine ⟨Keep.ext hR3i, ?_⟩
        repeat (first | refine uM ?_ | refine uR ?_ | refine uE ?_ | refine uB ?_ | refine uA ?_ | refine uD ?_ | refine jC ?_ | refine jN ?_ | refine jS ?_ | refine jR ?_ | refine jT ?_ | refine jB ?_ | refine jX rfl ?_ | refine jY rfl ?_ | refine jK ?_ | refine jD ?_ | refine jE ?_)
        have hm8fi := hm8s.ext hR3i
        refine ⟨by have := hm8fi.sub (k := 6) (m := 1) (by omega); rwa [Nat.zero_add] at this, trivial, rfl, by simp [Value.oneCell'], ?_⟩
        repeat (first | refine uM ?_ | refine uR ?_ | refine uE ?_ | refine uB ?_ | refine uA ?_ | refine uD ?_ | refine jC ?_ | refine jN ?_ | refine jS ?_ | refine jR ?_ | refine jT ?_ | refine jB ?_ | refine jX rfl ?_ | refine jY rfl ?_ | refine jK ?_ | refine jD ?_ | refine jE ?_)
        have hXi : ExcP (fun j => j = b8) wfi (setL wfi b8 (0 + 6) [Value.slice ad3i (k + 1 + (n.kids.length - k)) cap3i]) := (ExcP.refl (fun j => j = b8) wfi).setL (S := fun j => j = b8) rfl _ _
        have hsi := hR3i.size
        have hc8i := ((hc8s.ext hR3i).setAt (x := Value.slice ad3i (k + 1 + (n.kids.length - k)) cap3i) (hm8fi.sub (k := 6) (m := 1) (by omega)) (by simp))
        have hm6i := (hm6s.ext hR3i).exc (by omega) hXi (fun e => h68 e)
        have hxi : Vc.Ext w (setL wfi b8 (0 + 6) [Value.slice ad3i (k + 1 + (n.kids.length - k)) cap3i]) := (hxs.trans hR3i).trans' (hXi.below (by have := hxr.size; omega) fun j hj e => by omega)
        have hBn := ((hBs.ext (hi' := wfi.heap.size) hR3i hsi).exc (hi' := (setL wfi b8 (0 + 6) [Value.slice ad3i (k + 1 + (n.kids.length - k)) cap3i]).heap.size) hXi (fun _ e => by omega) (Nat.le_refl _) (by rw [setL_size]; exact Nat.le_refl _))
        have hBi := hB4i.exc (hi' := (setL wfi b8 (0 + 6) [Value.slice ad3i (k + 1 + (n.kids.length - k)) cap3i]).heap.size) hXi (fun _ e => by omega) (Nat.le_refl _) (by rw [setL_size]; exact Nat.le_refl _)
        have hwi : wfi.heap.size ≤ (setL wfi b8 (0 + 6) [Value.slice ad3i (k + 1 + (n.kids.length - k)) cap3i]).heap.size := by rw [setL_size]; exact Nat.le_refl _
        generalize (setL wfi b8 (0 + 6) [Value.slice ad3i (k + 1 + (n.kids.length - k)) cap3i]) = wt at hc8i hm6i hxi hBn hBi hwi hXi ⊢
        refine LdN.mk hc8i rfl ?_
        repeat (first | refine jC ?_ | refine jN ?_ | refine jS ?_ | refine jR ?_ | refine jT ?_ | refine jB ?_ | refine jX rfl ?_ | refine jY rfl ?_ | refine jK ?_ | refine jD ?_ | refine jE ?_)
        refine ⟨hm6i, trivial, rfl, by simp [Value.oneCell'], ?_⟩
        repeat (first | refine jC ?_ | refine jN ?_ | refine jS ?_ | refine jR ?_ | refine jT ?_ | refine jB ?_ | refine jX rfl ?_ | refine jY rfl ?_ | refine jK ?_ | refine jD ?_ | refine jE ?_)
        have hXt : ExcP (fun j => j = b6) wt (setL wt b6 0 _) := (ExcP.refl (fun j => j = b6) wt).setL (S := fun j => j = b6) rfl (n.cells (Value.slice ad3s (k + 1 + (n.names.length - k)) cap3s) (Value.slice ad3i (k + 1 + (n.kids.length - k)) cap3i)) 0
        refine LdN.mk (CellsAt.setL_in (l := n.cells (Value.slice ad3s (k + 1 + (n.names.length - k)) cap3s) (Value.slice ad3i (k + 1 + (n.kids.length - k)) cap3i)) hm6i) rfl ?_
        repeat (first | refine jC ?_ | refine jN ?_ | refine jS ?_ | refine jR ?_ | refine jT ?_ | refine jB ?_ | refine jX rfl ?_ | refine jY rfl ?_ | refine jK ?_ | refine jD ?_ | refine jE ?_)
        have hput : n.put x kid = { n with names := n.names.take k ++ x :: n.names.drop k, kids := n.kids.take k ++ kid :: n.kids.drop k } := by rw [hg]; rfl
        have hl1 : (n.put x kid).names.length = k + 1 + (n.names.length - k) := by
          rw [hput]; simp only [List.length_append, List.length_cons, List.length_take, List.length_drop]; omega
        have hl2 : (n.put x kid).kids.length = k + 1 + (n.kids.length - k) := by
          rw [hput]; simp only [List.length_append, List.length_cons, List.length_take, List.length_drop]; omega
        have hsx := hxr.size
        refine EndV.mk fun w' hw' => ⟨_, rfl, ⟨Value.slice ad3s (k + 1 + (n.names.length - k)) cap3s, Value.slice ad3i (k + 1 + (n.kids.length - k)) cap3i, g3s, g3i, rfl, ?_, ?_, by omega⟩, (hxi.trans' (hXt.below (by omega) fun j hj e => by omega)).trans hw'⟩
        · rw [hl1, hput]
          exact ((hBn.exc (hi' := (setL wt b6 0 (n.cells (Value.slice ad3s (k + 1 + (n.names.length - k)) cap3s) (Value.slice ad3i (k + 1 + (n.kids.length - k)) cap3i))).heap.size) hXt (fun _ e => by omega) (Nat.le_refl _) hXt.size).ext hw' hw'.size).low (by omega)
        · rw [hl2, hput]
          exact ((hBi.exc (hi' := (setL wt b6 0 (n.cells (Value.slice ad3s (k + 1 + (n.names.length - k)) cap3s) (Value.slice ad3i (k + 1 + (n.kids.length - k)) cap3i))).heap.size) hXt (fun _ e => by omega) (Nat.le_refl _) hXt.size).ext hw' hw'.size).low (by omega)
end Go.Proofs.YtbnjjpgacemicaaGreatDoor
