/-
  Contracts: JoinPath of the program and of the reference.
  Conditions: none but bounds.
-/
import Derived.Test.YtbnjjpgacemicaaGreatDoorNames
import Derived.Test.YtbnjjpgacemicaaGreatDoorNode
import Derived.Test.YtbnjjpgacemicaaGreatDoorShelf
import Derived.Test.YtbnjjpgacemicaaGreatDoorJoinP
namespace Go.Proofs.YtbnjjpgacemicaaGreatDoor
open Go.RowKit Vc
attribute [local irreducible] WpC WpL WpD CallV QCallV Made AppV Ld LdN Ix EndV I64 MutN Mut CellsAt

theorem joinFn_vc (s : ByteArray) (w : World) (hs : s.size ≤ maxLen) : Gives Tryz.prog 95 #[.string s] w (.bool (!nameOk s.data.toList)) := by
  refine calls_of cx_ok Tryz.func95 Tryz.ntmps95 Tryz.results95 rfl rfl ?_
  repeat (first | refine jC ?_ | refine jN ?_ | refine jS ?_ | refine jR ?_ | refine jT ?_ | refine jB ?_ | refine jX rfl ?_ | refine jY rfl ?_ | refine jK ?_ | refine jD ?_ | refine jE ?_)
  refine CallV.val (fun w' _ _ => (iNameValid_any s w' hs).of_same) ?_
  repeat (first | refine jC ?_ | refine jN ?_ | refine jS ?_ | refine jR ?_ | refine jT ?_ | refine jB ?_ | refine jX rfl ?_ | refine jY rfl ?_ | refine jK ?_ | refine jD ?_ | refine jE ?_)
  exact EndV.val rfl (Ext.refl _)
theorem joinIx_vc (l : List ByteArray) (v : Value) (w : World) (hU : Row1 w v (strs l)) (hwf : ∀ s ∈ l, s.size ≤ 9223372036854775807) :
    Gives Tryz.prog 109 #[v, .func (.func 95) #[] #[]] w (.int .i64 (bix l)) := by
  obtain ⟨ad, cap, rfl, hlc, hcm, hat⟩ := hU
  have hlen : (strs l).length = l.length := by simp
  rw [hlen] at hlc hat ⊢
  refine calls_of cx_ok Tryz.func109 Tryz.ntmps109 Tryz.results109 rfl rfl ?_
  repeat (first | refine jC ?_ | refine jN ?_ | refine jS ?_ | refine jR ?_ | refine jT ?_ | refine jB ?_ | refine jX rfl ?_ | refine jY rfl ?_ | refine jK ?_ | refine jD ?_ | refine jE ?_)
  refine WpC.loop (α := Nat) (fun x => ⟨[(0, .v (.slice ad l.length cap)), (1, .v (.func (.func 95) #[] #[])), (7, .v (.int .i64 (l.length : Int))), (8, .v (.int .i64 (x : Int)))], [], w⟩)
    (fun x => x ≤ l.length ∧ ∀ (j : Nat) (y : ByteArray), j < x → l[j]? = some y → nameOk y.data.toList = true) (fun x => l.length - x) 0 ⟨Nat.zero_le _, fun j y hj => absurd hj (by omega)⟩ ⟨⟨rfl, rfl, rfl, rfl, trivial⟩, trivial, trivial, Ext.refl _⟩ ?_
  rintro k ⟨hk, hn⟩
  repeat (first | refine jC ?_ | refine jN ?_ | refine jS ?_ | refine jR ?_ | refine jT ?_ | refine jB ?_ | refine jX rfl ?_ | refine jY rfl ?_ | refine jK ?_ | refine jD ?_ | refine jE ?_)
  refine Br.intro (fun h => ?_) (fun h => ?_)
  · have hlt : k < l.length := by have := of_decide_eq_true h; omega
    obtain ⟨b', o, rfl, hcs⟩ := hat (by omega)
    have hu : l[k]? = some l[k] := List.getElem?_eq_getElem hlt
    have hs := hwf _ (List.getElem_mem hlt)
    generalize l[k] = s at hu hs
    repeat (first | refine jC ?_ | refine jN ?_ | refine jS ?_ | refine jR ?_ | refine jT ?_ | refine jB ?_ | refine jX rfl ?_ | refine jY rfl ?_ | refine jK ?_ | refine jD ?_ | refine jE ?_)
    refine Ix.mk k rfl hlt ?_
    repeat (first | refine jC ?_ | refine jN ?_ | refine jS ?_ | refine jR ?_ | refine jT ?_ | refine jB ?_ | refine jX rfl ?_ | refine jY rfl ?_ | refine jK ?_ | refine jD ?_ | refine jE ?_)
    refine Ld.mk (hcs.out k _ (strs_get hu)) ?_
    repeat (first | refine jC ?_ | refine jN ?_ | refine jS ?_ | refine jR ?_ | refine jT ?_ | refine jB ?_ | refine jX rfl ?_ | refine jY rfl ?_ | refine jK ?_ | refine jD ?_ | refine jE ?_)
    refine CallV.val (fun w' _ _ => joinFn_vc s w' (by unfold maxLen; omega)) ?_
    repeat (first | refine jC ?_ | refine jN ?_ | refine jS ?_ | refine jR ?_ | refine jT ?_ | refine jB ?_ | refine jX rfl ?_ | refine jY rfl ?_ | refine jK ?_ | refine jD ?_ | refine jE ?_)
    refine Br.intro (fun h2 => ?_) (fun h2 => ?_)
    · repeat (first | refine jC ?_ | refine jN ?_ | refine jS ?_ | refine jR ?_ | refine jT ?_ | refine jB ?_ | refine jX rfl ?_ | refine jY rfl ?_ | refine jK ?_ | refine jD ?_ | refine jE ?_)
      exact EndV.val (by rw [bix_hit hu (by simpa using h2) hn]) (Ext.refl _)
    · repeat (first | refine jC ?_ | refine jN ?_ | refine jS ?_ | refine jR ?_ | refine jT ?_ | refine jB ?_ | refine jX rfl ?_ | refine jY rfl ?_ | refine jK ?_ | refine jD ?_ | refine jE ?_)
      refine ⟨I64.mk (by omega), ?_⟩
      repeat (first | refine jC ?_ | refine jN ?_ | refine jS ?_ | refine jR ?_ | refine jT ?_ | refine jB ?_ | refine jX rfl ?_ | refine jY rfl ?_ | refine jK ?_ | refine jD ?_ | refine jE ?_)
      refine ⟨k + 1, ⟨hlt, fun j y hj hy => ?_⟩, by show l.length - (k + 1) < l.length - k; omega, ⟨rfl, rfl, rfl, rfl, trivial⟩, trivial, trivial, Ext.refl _⟩
      rcases Nat.lt_or_ge j k with hjk | hjk
      · exact hn j y hjk hy
      · have : j = k := by omega
        subst this
        rw [hu] at hy
        cases hy
        simpa using h2
  · have hke : k = l.length := by have := of_decide_eq_false h; omega
    subst hke
    repeat (first | refine jC ?_ | refine jN ?_ | refine jS ?_ | refine jR ?_ | refine jT ?_ | refine jB ?_ | refine jX rfl ?_ | refine jY rfl ?_ | refine jK ?_ | refine jD ?_ | refine jE ?_)
    exact EndV.val (by rw [bix_none hn]) (Ext.refl _)
theorem joinHas_vc (l : List ByteArray) (v : Value) (w : World) (hU : Row1 w v (strs l)) (hwf : ∀ s ∈ l, s.size ≤ 9223372036854775807) :
    Gives Tryz.prog 94 #[v, .func (.func 95) #[] #[]] w (.bool (decide (0 ≤ bix l))) := by
  obtain ⟨ad, cap, rfl, hr⟩ := id hU
  refine calls_of cx_ok Tryz.func94 Tryz.ntmps94 Tryz.results94 rfl rfl ?_
  repeat (first | refine jC ?_ | refine jN ?_ | refine jS ?_ | refine jR ?_ | refine jT ?_ | refine jB ?_ | refine jX rfl ?_ | refine jY rfl ?_ | refine jK ?_ | refine jD ?_ | refine jE ?_)
  refine CallV.val (fun w' hw _ => joinIx_vc l _ w' (hU.ext hw) hwf) ?_
  repeat (first | refine jC ?_ | refine jN ?_ | refine jS ?_ | refine jR ?_ | refine jT ?_ | refine jB ?_ | refine jX rfl ?_ | refine jY rfl ?_ | refine jK ?_ | refine jD ?_ | refine jE ?_)
  exact EndV.val rfl (Ext.refl _)
theorem join_call (l : List ByteArray) (v : Value) (w : World) (hU : Row1 w v (strs l)) (h : l.length ≤ 6) (hb : ¬ 0 ≤ bix l) :
    Gives Tryz.prog 97 #[v, .string ⟨#[47]⟩] w (.string ⟨(Lib.join (l.map (·.data.toList)) [47]).toArray⟩) := by
  obtain ⟨ad, cap, rfl, hlc, hcm, hat⟩ := hU
  have hlen : (strs l).length = l.length := by simp
  rw [hlen] at hlc hat ⊢
  cases hl : l with
  | nil => exact (Tryz.strings_Join_none ad cap ⟨#[47]⟩ w).mono fun e w' ⟨h1, h2⟩ => ⟨h1, by subst h2; exact Ext.refl _⟩
  | cons s r =>
    rw [← hl]
    obtain ⟨b, o, rfl, hc⟩ := hat (by rw [hl]; simp)
    have hj := join_len h hb
    refine (Tryz.strings_Join b o cap l ⟨#[47]⟩ w (fun j x hx => hc.out j _ (strs_get hx)) (hc.lt (by rw [hlen, hl]; simp)) (by omega) hlc (by
      show (Lib.join (l.map (·.data.toList)) [47]).length ≤ _
      omega)).mono fun e w' ⟨h1, h2⟩ => ⟨h1, h2⟩
theorem iJoinPath_vc (l : List ByteArray) (v : Value) (w : World) (hU : Row1 w v (strs l)) (hwf : ∀ s ∈ l, s.size ≤ 9223372036854775807) :
    Gives Tryz.prog 60 #[v] w (.string (joinB l)) := by
  obtain ⟨ad, cap, rfl, hr⟩ := id hU
  have hlen : (strs l).length = l.length := by simp
  rw [hlen] at hr hU ⊢
  refine calls_of cx_ok Tryz.func60 Tryz.ntmps60 Tryz.results60 rfl rfl ?_
  repeat (first | refine jC ?_ | refine jN ?_ | refine jS ?_ | refine jR ?_ | refine jT ?_ | refine jB ?_ | refine jX rfl ?_ | refine jY rfl ?_ | refine jK ?_ | refine jD ?_ | refine jE ?_)
  refine Br.intro (fun h => ?_) (fun h => ?_)
  · have h := of_decide_eq_true h
    repeat (first | refine jC ?_ | refine jN ?_ | refine jS ?_ | refine jR ?_ | refine jT ?_ | refine jB ?_ | refine jX rfl ?_ | refine jY rfl ?_ | refine jK ?_ | refine jD ?_ | refine jE ?_)
    exact EndV.val (by rw [joinB, if_pos (.inl (by omega))]) (Ext.refl _)
  have h6 : l.length ≤ 6 := by have := of_decide_eq_false h; omega
  repeat (first | refine jC ?_ | refine jN ?_ | refine jS ?_ | refine jR ?_ | refine jT ?_ | refine jB ?_ | refine jX rfl ?_ | refine jY rfl ?_ | refine jK ?_ | refine jD ?_ | refine jE ?_)
  refine CallV.val (fun w' hw _ => joinHas_vc l _ w' (hU.ext hw) hwf) ?_
  repeat (first | refine jC ?_ | refine jN ?_ | refine jS ?_ | refine jR ?_ | refine jT ?_ | refine jB ?_ | refine jX rfl ?_ | refine jY rfl ?_ | refine jK ?_ | refine jD ?_ | refine jE ?_)
  refine Br.intro (fun h => ?_) (fun h => ?_)
  · have h := of_decide_eq_true h
    repeat (first | refine jC ?_ | refine jN ?_ | refine jS ?_ | refine jR ?_ | refine jT ?_ | refine jB ?_ | refine jX rfl ?_ | refine jY rfl ?_ | refine jK ?_ | refine jD ?_ | refine jE ?_)
    exact EndV.val (by rw [joinB, if_pos (.inr h)]) (Ext.refl _)
  have hb : ¬ 0 ≤ bix l := of_decide_eq_false h
  have hj := join_len h6 hb
  repeat (first | refine jC ?_ | refine jN ?_ | refine jS ?_ | refine jR ?_ | refine jT ?_ | refine jB ?_ | refine jX rfl ?_ | refine jY rfl ?_ | refine jK ?_ | refine jD ?_ | refine jE ?_)
  refine CallV.val (fun w' hw _ => join_call l _ w' (hU.ext hw) h6 hb) ?_
  repeat (first | refine jC ?_ | refine jN ?_ | refine jS ?_ | refine jR ?_ | refine jT ?_ | refine jB ?_ | refine jX rfl ?_ | refine jY rfl ?_ | refine jK ?_ | refine jD ?_ | refine jE ?_)
  refine ⟨by show 1 + (Lib.join (l.map (·.data.toList)) [47]).length ≤ _; omega, ?_⟩
  repeat (first | refine jC ?_ | refine jN ?_ | refine jS ?_ | refine jR ?_ | refine jT ?_ | refine jB ?_ | refine jX rfl ?_ | refine jY rfl ?_ | refine jK ?_ | refine jD ?_ | refine jE ?_)
  exact EndV.val (by rw [joinB, if_neg (by omega)]; congr 1) (Ext.refl _)
theorem sJoinPath_vc (l : List ByteArray) (v : Value) (w : World) (hU : Row1 w v (strs l)) (hwf : ∀ s ∈ l, s.size ≤ 9223372036854775807) :
    Gives Tryz.prog 56 #[v] w (.string (joinB l)) := by
  obtain ⟨ad, cap, rfl, hlc, hcm, hat⟩ := hU
  have hlen : (strs l).length = l.length := by simp
  rw [hlen] at hlc hat ⊢
  refine calls_of cx_ok Tryz.func56 Tryz.ntmps56 Tryz.results56 rfl rfl ?_
  repeat (first | refine jC ?_ | refine jN ?_ | refine jS ?_ | refine jR ?_ | refine jT ?_ | refine jB ?_ | refine jX rfl ?_ | refine jY rfl ?_ | refine jK ?_ | refine jD ?_ | refine jE ?_)
  refine WpC.loop (α := Nat) (fun x => ⟨[(0, .v (.slice ad l.length cap)), (3, .v (.string ⟨(jn (l.take x)).toArray⟩)), (4, .v (.int .i64 (x : Int)))], [], w⟩)
    (fun x => x ≤ l.length ∧ (x = 0 ∨ l.length ≤ 6) ∧ (∀ (j : Nat) (y : ByteArray), j < x → l[j]? = some y → nameOk y.data.toList = true) ∧ (jn (l.take x)).length ≤ x * 9) (fun x => l.length - x) 0
    ⟨Nat.zero_le _, .inl rfl, fun j y hj => absurd hj (by omega), Nat.le_refl _⟩ ⟨⟨rfl, rfl, rfl, trivial⟩, trivial, trivial, Ext.refl _⟩ ?_
  rintro k ⟨hk, h6, hn, hj⟩
  repeat (first | refine jC ?_ | refine jN ?_ | refine jS ?_ | refine jR ?_ | refine jT ?_ | refine jB ?_ | refine jX rfl ?_ | refine jY rfl ?_ | refine jK ?_ | refine jD ?_ | refine jE ?_)
  refine Br.intro (fun h => ?_) (fun h => ?_)
  · have hlt : k < l.length := by have := of_decide_eq_true h; omega
    obtain ⟨b, o, rfl, hc⟩ := hat (by omega)
    have hu : l[k]? = some l[k] := List.getElem?_eq_getElem hlt
    have hs := hwf _ (List.getElem_mem hlt)
    have hm := List.getElem_mem hlt
    generalize l[k] = s at hu hs hm
    repeat (first | refine jC ?_ | refine jN ?_ | refine jS ?_ | refine jR ?_ | refine jT ?_ | refine jB ?_ | refine jX rfl ?_ | refine jY rfl ?_ | refine jK ?_ | refine jD ?_ | refine jE ?_)
    refine Ix.mk k rfl hlt ?_
    repeat (first | refine jC ?_ | refine jN ?_ | refine jS ?_ | refine jR ?_ | refine jT ?_ | refine jB ?_ | refine jX rfl ?_ | refine jY rfl ?_ | refine jK ?_ | refine jD ?_ | refine jE ?_)
    refine Ld.mk (hc.out k _ (strs_get hu)) ?_
    repeat (first | refine jC ?_ | refine jN ?_ | refine jS ?_ | refine jR ?_ | refine jT ?_ | refine jB ?_ | refine jX rfl ?_ | refine jY rfl ?_ | refine jK ?_ | refine jD ?_ | refine jE ?_)
    refine CallV.val (fun w' _ _ => (sNameValid_any s w' (by unfold maxLen; omega)).of_same) ?_
    repeat (first | refine jC ?_ | refine jN ?_ | refine jS ?_ | refine jR ?_ | refine jT ?_ | refine jB ?_ | refine jX rfl ?_ | refine jY rfl ?_ | refine jK ?_ | refine jD ?_ | refine jE ?_)
    refine Br.intro (fun h2 => ?_) (fun h2 => ?_)
    · repeat (first | refine jC ?_ | refine jN ?_ | refine jS ?_ | refine jR ?_ | refine jT ?_ | refine jB ?_ | refine jX rfl ?_ | refine jY rfl ?_ | refine jK ?_ | refine jD ?_ | refine jE ?_)
      refine EndV.val ?_ (Ext.refl _)
      rw [joinB, if_pos]
      by_cases hb : 0 ≤ bix l
      · exact .inr hb
      · rw [bix_ok hb s hm] at h2; cases h2
    have h2 : nameOk s.data.toList = true := by simpa using h2
    have h8 : s.data.toList.length ≤ 8 := by
      simp only [nameOk, Bool.and_eq_true, decide_eq_true_eq] at h2
      exact h2.2
    repeat (first | refine jC ?_ | refine jN ?_ | refine jS ?_ | refine jR ?_ | refine jT ?_ | refine jB ?_ | refine jX rfl ?_ | refine jY rfl ?_ | refine jK ?_ | refine jD ?_ | refine jE ?_)
    refine Br.intro (fun h3 => ?_) (fun h3 => ?_)
    · have h3 := of_decide_eq_true h3
      repeat (first | refine jC ?_ | refine jN ?_ | refine jS ?_ | refine jR ?_ | refine jT ?_ | refine jB ?_ | refine jX rfl ?_ | refine jY rfl ?_ | refine jK ?_ | refine jD ?_ | refine jE ?_)
      exact EndV.val (by rw [joinB, if_pos (.inl (by omega))]) (Ext.refl _)
    have h3 : l.length ≤ 6 := by have := of_decide_eq_false h3; omega
    repeat (first | refine jC ?_ | refine jN ?_ | refine jS ?_ | refine jR ?_ | refine jT ?_ | refine jB ?_ | refine jX rfl ?_ | refine jY rfl ?_ | refine jK ?_ | refine jD ?_ | refine jE ?_)
    refine ⟨by show (jn (l.take k)).length + 1 ≤ _; omega, ?_⟩
    repeat (first | refine jC ?_ | refine jN ?_ | refine jS ?_ | refine jR ?_ | refine jT ?_ | refine jB ?_ | refine jX rfl ?_ | refine jY rfl ?_ | refine jK ?_ | refine jD ?_ | refine jE ?_)
    refine Ix.mk k rfl hlt ?_
    repeat (first | refine jC ?_ | refine jN ?_ | refine jS ?_ | refine jR ?_ | refine jT ?_ | refine jB ?_ | refine jX rfl ?_ | refine jY rfl ?_ | refine jK ?_ | refine jD ?_ | refine jE ?_)
    refine Ld.mk (hc.out k _ (strs_get hu)) ?_
    repeat (first | refine jC ?_ | refine jN ?_ | refine jS ?_ | refine jR ?_ | refine jT ?_ | refine jB ?_ | refine jX rfl ?_ | refine jY rfl ?_ | refine jK ?_ | refine jD ?_ | refine jE ?_)
    refine ⟨?_, ?_⟩
    · rw [ByteArray.size_append]
      have h9 : s.size ≤ 8 := by simpa using h8
      show (jn (l.take k)).length + 1 + s.size ≤ _
      omega
    repeat (first | refine jC ?_ | refine jN ?_ | refine jS ?_ | refine jR ?_ | refine jT ?_ | refine jB ?_ | refine jX rfl ?_ | refine jY rfl ?_ | refine jK ?_ | refine jD ?_ | refine jE ?_)
    refine ⟨I64.mk (by omega), ?_⟩
    repeat (first | refine jC ?_ | refine jN ?_ | refine jS ?_ | refine jR ?_ | refine jT ?_ | refine jB ?_ | refine jX rfl ?_ | refine jY rfl ?_ | refine jK ?_ | refine jD ?_ | refine jE ?_)
    have e := jn_snoc hu
    refine ⟨k + 1, ⟨hlt, .inr h3, fun j y hj hy => ?_, ?_⟩, by show l.length - (k + 1) < l.length - k; omega, ⟨rfl, ?_, rfl, trivial⟩, trivial, trivial, Ext.refl _⟩
    · by_cases hjk : j = k
      · subst hjk; rw [hu] at hy; cases hy; exact h2
      · exact hn j y (by omega) hy
    · show (jn (l.take (k + 1))).length ≤ (k + 1) * 9
      rw [e, List.length_append, List.length_cons]
      omega
    · show some _ = some _
      rw [e]
      congr 3
      ext1
      simp
  · have hke : k = l.length := by have := of_decide_eq_false h; omega
    subst hke
    rw [List.take_length] at hj
    have hb : ¬ 0 ≤ bix l := by rw [bix_none hn]; omega
    cases hl : l with
    | nil =>
      subst hl
      repeat (first | refine jC ?_ | refine jN ?_ | refine jS ?_ | refine jR ?_ | refine jT ?_ | refine jB ?_ | refine jX rfl ?_ | refine jY rfl ?_ | refine jK ?_ | refine jD ?_ | refine jE ?_)
      refine Br.yes (by simp [jn]) ?_
      repeat (first | refine jC ?_ | refine jN ?_ | refine jS ?_ | refine jR ?_ | refine jT ?_ | refine jB ?_ | refine jX rfl ?_ | refine jY rfl ?_ | refine jK ?_ | refine jD ?_ | refine jE ?_)
      exact EndV.val (by rw [joinB, if_neg (by simp [hb])]; rfl) (Ext.refl _)
    | cons s r =>
      rw [← hl]
      have h6 : l.length ≤ 6 := h6.resolve_left (by rw [hl]; simp)
      have e : joinB l = ⟨(jn l).toArray⟩ := by rw [joinB, if_neg (by omega), hl, jn_join]
      repeat (first | refine jC ?_ | refine jN ?_ | refine jS ?_ | refine jR ?_ | refine jT ?_ | refine jB ?_ | refine jX rfl ?_ | refine jY rfl ?_ | refine jK ?_ | refine jD ?_ | refine jE ?_)
      refine Br.no ?_ ?_
      · rw [List.take_length, empty_text2, hl, jn_join]; rfl
      repeat (first | refine jC ?_ | refine jN ?_ | refine jS ?_ | refine jR ?_ | refine jT ?_ | refine jB ?_ | refine jX rfl ?_ | refine jY rfl ?_ | refine jK ?_ | refine jD ?_ | refine jE ?_)
      exact EndV.val (by rw [e, List.take_length]) (Ext.refl _)
end Go.Proofs.YtbnjjpgacemicaaGreatDoor
