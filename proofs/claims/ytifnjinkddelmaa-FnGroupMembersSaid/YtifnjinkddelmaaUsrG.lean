/-
  Contracts: members of a group, the reference's UserNamed, marks in users.
  Conditions: none but bounds.
-/
import Derived.Test.YtifnjinkddelmaaUsrV
import Derived.Test.YtifnjinkddelmaaText
namespace Go.Proofs.Ytifnjinkddelmaa
open Go.RowKit Vc
attribute [local irreducible] WpC WpL WpD CallV QCallV Made AppV Ld LdN Ix EndV I64 MutN Mut CellsAt

theorem sUserNamed_vc (us : List Us) (v : Value) (nm : ByteArray) (w : World) (hU : Uss w v us) (hwf : ∀ u ∈ us, u.wf) : Gives Try.prog 34 #[v, .string nm] w (.int .i64 (userNo us nm)) := by
  obtain ⟨ad, cap, rfl, hlc, hcm, hat⟩ := hU.open
  refine calls_of cx_ok Try.func34 Try.ntmps34 Try.results34 rfl rfl ?_
  repeat (first | refine jC ?_ | refine jN ?_ | refine jS ?_ | refine jR ?_ | refine jT ?_ | refine jB ?_ | refine jX rfl ?_ | refine jY rfl ?_ | refine jK ?_ | refine jD ?_ | refine jE ?_)
  refine WpC.loop (α := Nat) (fun x => ⟨[(0, .v (.slice ad us.length cap)), (1, .v (.string nm)), (5, .v (.int .i64 (x : Int)))], [], w⟩)
    (fun x => x ≤ us.length ∧ ∀ (j : Nat) (y : Us), j < x → us[j]? = some y → same y.name nm = false) (fun x => us.length - x) 0 ⟨Nat.zero_le _, fun j y hj => absurd hj (by omega)⟩ ⟨⟨rfl, rfl, rfl, trivial⟩, trivial, trivial, Ext.refl _⟩ ?_
  rintro k ⟨hk, hn⟩
  repeat (first | refine jC ?_ | refine jN ?_ | refine jS ?_ | refine jR ?_ | refine jT ?_ | refine jB ?_ | refine jX rfl ?_ | refine jY rfl ?_ | refine jK ?_ | refine jD ?_ | refine jE ?_)
  refine Br.intro (fun h => ?_) (fun h => ?_)
  · have hlt : k < us.length := by have := of_decide_eq_true h; omega
    obtain ⟨b, o, rfl, hb, hc⟩ := hat (by omega)
    have hu : us[k]? = some us[k] := List.getElem?_eq_getElem hlt
    generalize us[k] = u at hu
    repeat (first | refine jC ?_ | refine jN ?_ | refine jS ?_ | refine jR ?_ | refine jT ?_ | refine jB ?_ | refine jX rfl ?_ | refine jY rfl ?_ | refine jK ?_ | refine jD ?_ | refine jE ?_)
    refine CallV.val (fun w' hw _ => sUsersValid_vc us _ w' (hU.ext hw) hwf) ?_
    repeat (first | refine jC ?_ | refine jN ?_ | refine jS ?_ | refine jR ?_ | refine jT ?_ | refine jB ?_ | refine jX rfl ?_ | refine jY rfl ?_ | refine jK ?_ | refine jD ?_ | refine jE ?_)
    refine Br.intro (fun h1 => ?_) (fun h1 => ?_)
    · repeat (first | refine jC ?_ | refine jN ?_ | refine jS ?_ | refine jR ?_ | refine jT ?_ | refine jB ?_ | refine jX rfl ?_ | refine jY rfl ?_ | refine jK ?_ | refine jD ?_ | refine jE ?_)
      refine Ix.mk k rfl hlt ?_
      repeat (first | refine jC ?_ | refine jN ?_ | refine jS ?_ | refine jR ?_ | refine jT ?_ | refine jB ?_ | refine jX rfl ?_ | refine jY rfl ?_ | refine jK ?_ | refine jD ?_ | refine jE ?_)
      refine Ld.mk ((hc k _ hu).out 0 _ rfl) ?_
      repeat (first | refine jC ?_ | refine jN ?_ | refine jS ?_ | refine jR ?_ | refine jT ?_ | refine jB ?_ | refine jX rfl ?_ | refine jY rfl ?_ | refine jK ?_ | refine jD ?_ | refine jE ?_)
      refine Br.intro (fun h2 => ?_) (fun h2 => ?_)
      · repeat (first | refine jC ?_ | refine jN ?_ | refine jS ?_ | refine jR ?_ | refine jT ?_ | refine jB ?_ | refine jX rfl ?_ | refine jY rfl ?_ | refine jK ?_ | refine jD ?_ | refine jE ?_)
        refine Ix.mk k rfl hlt ?_
        repeat (first | refine jC ?_ | refine jN ?_ | refine jS ?_ | refine jR ?_ | refine jT ?_ | refine jB ?_ | refine jX rfl ?_ | refine jY rfl ?_ | refine jK ?_ | refine jD ?_ | refine jE ?_)
        refine Ld.mk ((hc k _ hu).out 1 _ rfl) ?_
        repeat (first | refine jC ?_ | refine jN ?_ | refine jS ?_ | refine jR ?_ | refine jT ?_ | refine jB ?_ | refine jX rfl ?_ | refine jY rfl ?_ | refine jK ?_ | refine jD ?_ | refine jE ?_)
        exact EndV.val (by rw [userNo, if_pos h1, find_hit hu h2 hn]) (Ext.refl _)
      · repeat (first | refine jC ?_ | refine jN ?_ | refine jS ?_ | refine jR ?_ | refine jT ?_ | refine jB ?_ | refine jX rfl ?_ | refine jY rfl ?_ | refine jK ?_ | refine jD ?_ | refine jE ?_)
        refine ⟨I64.mk (by omega), ?_⟩
        repeat (first | refine jC ?_ | refine jN ?_ | refine jS ?_ | refine jR ?_ | refine jT ?_ | refine jB ?_ | refine jX rfl ?_ | refine jY rfl ?_ | refine jK ?_ | refine jD ?_ | refine jE ?_)
        refine ⟨k + 1, ⟨hlt, fun j z hj hz => ?_⟩, by show us.length - (k + 1) < us.length - k; omega, ⟨rfl, rfl, rfl, trivial⟩, trivial, trivial, Ext.refl _⟩
        rcases Nat.lt_or_ge j k with hjk | hjk
        · exact hn j z hjk hz
        · have : j = k := by omega
          subst this
          rw [hu] at hz
          cases hz
          exact h2
    · repeat (first | refine jC ?_ | refine jN ?_ | refine jS ?_ | refine jR ?_ | refine jT ?_ | refine jB ?_ | refine jX rfl ?_ | refine jY rfl ?_ | refine jK ?_ | refine jD ?_ | refine jE ?_)
      exact EndV.val (by rw [userNo, if_neg (by simp [h1])]) (Ext.refl _)
  · have hke : k = us.length := by have := of_decide_eq_false h; omega
    subst hke
    repeat (first | refine jC ?_ | refine jN ?_ | refine jS ?_ | refine jR ?_ | refine jT ?_ | refine jB ?_ | refine jX rfl ?_ | refine jY rfl ?_ | refine jK ?_ | refine jD ?_ | refine jE ?_)
    refine EndV.val ?_ (Ext.refl _)
    rw [userNo, find_none fun j x hx => hn j x (List.getElem?_eq_some_iff.1 hx).1 hx]
    simp
theorem iGroupMembers_vc (us : List Us) (v : Value) (g : Int) (w : World) (hU : Uss w v us) (hwf : ∀ u ∈ us, u.wf) (hl : us.length ≤ 1048576) :
    Calls Try.prog 36 #[v, .int .i64 g] w fun e w' => ∃ v', e = .returned v' ∧ (∃ ad n cap, v' = .slice ad n cap ∧ Buf w.heap.size w' ad n cap 1 (ints (members us g))) ∧ Ext w w' := by
  obtain ⟨ad, cap, rfl, hlc, hcm, hat⟩ := hU.open
  refine calls_of cx_ok Try.func36 Try.ntmps36 Try.results36 rfl rfl ?_
  repeat (first | refine jC ?_ | refine jN ?_ | refine jS ?_ | refine jR ?_ | refine jT ?_ | refine jB ?_ | refine jX rfl ?_ | refine jY rfl ?_ | refine jK ?_ | refine jD ?_ | refine jE ?_)
  refine Made.mk fun g0 w0 hx0 hg1 hg2 hg3 _ => ?_
  have hb0 := Buf.made (sz := 1) hg1 hg2 hg3 0 rfl (by omega)
  repeat (first | refine jC ?_ | refine jN ?_ | refine jS ?_ | refine jR ?_ | refine jT ?_ | refine jB ?_ | refine jX rfl ?_ | refine jY rfl ?_ | refine jK ?_ | refine jD ?_ | refine jE ?_)
  refine CallV.val (fun w' hw _ => iUsersValid_vc us _ w' (hU.ext (hx0.trans hw)) hwf) ?_
  repeat (first | refine jC ?_ | refine jN ?_ | refine jS ?_ | refine jR ?_ | refine jT ?_ | refine jB ?_ | refine jX rfl ?_ | refine jY rfl ?_ | refine jK ?_ | refine jD ?_ | refine jE ?_)
  refine Br.intro (fun h1 => ?_) (fun h1 => ?_)
  · repeat (first | refine jC ?_ | refine jN ?_ | refine jS ?_ | refine jR ?_ | refine jT ?_ | refine jB ?_ | refine jX rfl ?_ | refine jY rfl ?_ | refine jK ?_ | refine jD ?_ | refine jE ?_)
    refine EndV.mk fun w' hw' => ⟨_, rfl, ⟨_, _, _, rfl, ?_⟩, hx0.trans hw'⟩
    rw [members, if_neg (by simpa using h1)]
    exact hb0.ext hw'
  have h1 : usersOk us = true := by simpa using h1
  repeat (first | refine jC ?_ | refine jN ?_ | refine jS ?_ | refine jR ?_ | refine jT ?_ | refine jB ?_ | refine jX rfl ?_ | refine jY rfl ?_ | refine jK ?_ | refine jD ?_ | refine jE ?_)
  refine WpC.loop (α := Nat × Option Addr × Nat × World) (fun x => ⟨[(0, .v (.slice ad us.length cap)), (1, .v (.int .i64 g)), (13, .v (.slice ad us.length cap)), (14, .v (.int .i64 (us.length : Int))), (15, .v (.int .i64 (x.1 : Int))), (5, .v (.slice x.2.1 (mems (us.take x.1) g).length x.2.2.1))], [], x.2.2.2⟩)
    (fun x => x.1 ≤ us.length ∧ Below w.heap.size w x.2.2.2 ∧ Buf w.heap.size x.2.2.2 x.2.1 (mems (us.take x.1) g).length x.2.2.1 1 (ints (mems (us.take x.1) g))) (fun x => us.length - x.1) (0, some ⟨g0, 0, none⟩, 0, w0)
    ⟨Nat.zero_le _, hx0, hb0⟩ ⟨⟨rfl, rfl, rfl, rfl, rfl, rfl, trivial⟩, trivial, trivial, Ext.refl _⟩ ?_
  rintro ⟨k, ad', cap', wk⟩ ⟨hk, hx, hb⟩
  dsimp only at hk hx hb ⊢
  repeat (first | refine jC ?_ | refine jN ?_ | refine jS ?_ | refine jR ?_ | refine jT ?_ | refine jB ?_ | refine jX rfl ?_ | refine jY rfl ?_ | refine jK ?_ | refine jD ?_ | refine jE ?_)
  refine Br.intro (fun h => ?_) (fun h => ?_)
  · have hlt : k < us.length := by have := of_decide_eq_true h; omega
    obtain ⟨b, o, rfl, hbl, hc⟩ := hat (by omega)
    have hu : us[k]? = some us[k] := List.getElem?_eq_getElem hlt
    generalize us[k] = u at hu
    have hsn := mems_snoc hu g
    have hml : (mems (us.take k) g).length ≤ k := by
      unfold mems
      rw [List.length_map]
      exact Nat.le_trans (List.length_filter_le _ _) (by simp; omega)
    repeat (first | refine jC ?_ | refine jN ?_ | refine jS ?_ | refine jR ?_ | refine jT ?_ | refine jB ?_ | refine jX rfl ?_ | refine jY rfl ?_ | refine jK ?_ | refine jD ?_ | refine jE ?_)
    refine Ix.mk k rfl hlt ?_
    repeat (first | refine jC ?_ | refine jN ?_ | refine jS ?_ | refine jR ?_ | refine jT ?_ | refine jB ?_ | refine jX rfl ?_ | refine jY rfl ?_ | refine jK ?_ | refine jD ?_ | refine jE ?_)
    refine LdN.mk ((hc k _ hu).below hx (.inr hbl)) rfl ?_
    repeat (first | refine jC ?_ | refine jN ?_ | refine jS ?_ | refine jR ?_ | refine jT ?_ | refine jB ?_ | refine jX rfl ?_ | refine jY rfl ?_ | refine jK ?_ | refine jD ?_ | refine jE ?_)
    intro b1 hb1
    repeat (first | refine jC ?_ | refine jN ?_ | refine jS ?_ | refine jR ?_ | refine jT ?_ | refine jB ?_ | refine jX rfl ?_ | refine jY rfl ?_ | refine jK ?_ | refine jD ?_ | refine jE ?_)
    refine ⟨by assumption, rfl, by simp, by simp [Value.oneCell'], ?_⟩
    repeat (first | refine jC ?_ | refine jN ?_ | refine jS ?_ | refine jR ?_ | refine jT ?_ | refine jB ?_ | refine jX rfl ?_ | refine jY rfl ?_ | refine jK ?_ | refine jD ?_ | refine jE ?_)
    refine CallV.val (fun w' _ _ => (iHasGroup_any u.grp g w').of_same) ?_
    repeat (first | refine jC ?_ | refine jN ?_ | refine jS ?_ | refine jR ?_ | refine jT ?_ | refine jB ?_ | refine jX rfl ?_ | refine jY rfl ?_ | refine jK ?_ | refine jD ?_ | refine jE ?_)
    refine Br.intro (fun h2 => ?_) (fun h2 => ?_)
    · rw [if_pos h2] at hsn
      repeat (first | refine jC ?_ | refine jN ?_ | refine jS ?_ | refine jR ?_ | refine jT ?_ | refine jB ?_ | refine jX rfl ?_ | refine jY rfl ?_ | refine jK ?_ | refine jD ?_ | refine jE ?_)
      refine Made.mk fun g2 w2 hx2 hg21 hg22 hg23 hne => ?_
      repeat (first | refine jC ?_ | refine jN ?_ | refine jS ?_ | refine jR ?_ | refine jT ?_ | refine jB ?_ | refine jX rfl ?_ | refine jY rfl ?_ | refine jK ?_ | refine jD ?_ | refine jE ?_)
      refine AppV.buf (hb.ext hx2) (news := [.int .i64 u.num]) (CellsAt.of_block hg23 (fun i v hi => by simpa using hi)) rfl (by simp [Value.oneCell']) (fun p hp => ?_) (by omega) (by omega) rfl (by have := hx2.size; have := hx.size; omega) (fun ad3 cap3 A3 hb3 hx3 hf3 => ?_)
      · obtain ⟨g4, rfl, _, h4, _⟩ := hb.at_ p hp
        exact ⟨by show b1 ≠ g4; omega, trivial⟩
      repeat (first | refine jC ?_ | refine jN ?_ | refine jS ?_ | refine jR ?_ | refine jT ?_ | refine jB ?_ | refine jX rfl ?_ | refine jY rfl ?_ | refine jK ?_ | refine jD ?_ | refine jE ?_)
      refine ⟨I64.mk (by omega), ?_⟩
      repeat (first | refine jC ?_ | refine jN ?_ | refine jS ?_ | refine jR ?_ | refine jT ?_ | refine jB ?_ | refine jX rfl ?_ | refine jY rfl ?_ | refine jK ?_ | refine jD ?_ | refine jE ?_)
      have e : (mems (us.take (k + 1)) g).length = (mems (us.take k) g).length + 1 := by rw [hsn]; simp
      refine ⟨(k + 1, ad3, cap3, A3), ⟨hlt, hx.trans ((hx2.mono hx.size).trans hx3), ?_⟩, by show us.length - (k + 1) < us.length - k; omega, ⟨rfl, rfl, rfl, rfl, rfl, ?_, trivial⟩, trivial, trivial, Ext.refl _⟩
      · show Buf _ A3 ad3 (mems (us.take (k + 1)) g).length cap3 1 (ints (mems (us.take (k + 1)) g))
        rw [e, hsn, ints, List.map_append]
        exact hb3
      · show some _ = some _
        rw [e]
    · rw [if_neg (by simp [h2])] at hsn
      repeat (first | refine jC ?_ | refine jN ?_ | refine jS ?_ | refine jR ?_ | refine jT ?_ | refine jB ?_ | refine jX rfl ?_ | refine jY rfl ?_ | refine jK ?_ | refine jD ?_ | refine jE ?_)
      refine ⟨I64.mk (by omega), ?_⟩
      repeat (first | refine jC ?_ | refine jN ?_ | refine jS ?_ | refine jR ?_ | refine jT ?_ | refine jB ?_ | refine jX rfl ?_ | refine jY rfl ?_ | refine jK ?_ | refine jD ?_ | refine jE ?_)
      refine ⟨(k + 1, ad', cap', wk), ⟨hlt, hx, ?_⟩, by show us.length - (k + 1) < us.length - k; omega, ⟨rfl, rfl, rfl, rfl, rfl, ?_, trivial⟩, trivial, trivial, Ext.refl _⟩
      · show Buf _ wk ad' (mems (us.take (k + 1)) g).length cap' 1 (ints (mems (us.take (k + 1)) g))
        rw [hsn]; exact hb
      · show some _ = some _
        rw [hsn]
  · have hke : k = us.length := by have := of_decide_eq_false h; omega
    subst hke
    repeat (first | refine jC ?_ | refine jN ?_ | refine jS ?_ | refine jR ?_ | refine jT ?_ | refine jB ?_ | refine jX rfl ?_ | refine jY rfl ?_ | refine jK ?_ | refine jD ?_ | refine jE ?_)
    refine EndV.mk fun w' hw' => ⟨_, rfl, ⟨_, _, _, rfl, ?_⟩, Ext.trans' hx (hw'.mono hx.size)⟩
    rw [members, if_pos h1]
    rw [List.take_length] at hb ⊢
    exact hb.ext hw'
theorem sGroupMembers_vc (us : List Us) (v : Value) (g : Int) (w : World) (hU : Uss w v us) (hwf : ∀ u ∈ us, u.wf) (hl : us.length ≤ 1048576) :
    Calls Try.prog 38 #[v, .int .i64 g] w fun e w' => ∃ v', e = .returned v' ∧ (∃ ad n cap, v' = .slice ad n cap ∧ Buf w.heap.size w' ad n cap 1 (ints (members us g))) ∧ Ext w w' := by
  obtain ⟨ad, cap, rfl, hlc, hcm, hat⟩ := hU.open
  refine calls_of cx_ok Try.func38 Try.ntmps38 Try.results38 rfl rfl ?_
  repeat (first | refine jC ?_ | refine jN ?_ | refine jS ?_ | refine jR ?_ | refine jT ?_ | refine jB ?_ | refine jX rfl ?_ | refine jY rfl ?_ | refine jK ?_ | refine jD ?_ | refine jE ?_)
  refine Made.mk fun g0 w0 hx0 hg1 hg2 hg3 _ => ?_
  have hb0 := Buf.made (sz := 1) hg1 hg2 hg3 0 rfl (by omega)
  repeat (first | refine jC ?_ | refine jN ?_ | refine jS ?_ | refine jR ?_ | refine jT ?_ | refine jB ?_ | refine jX rfl ?_ | refine jY rfl ?_ | refine jK ?_ | refine jD ?_ | refine jE ?_)
  refine WpC.loop (α := Nat × Option Addr × Nat × World) (fun x => ⟨[(0, .v (.slice ad us.length cap)), (1, .v (.int .i64 g)), (6, .v (.int .i64 (x.1 : Int))), (5, .v (.slice x.2.1 (mems (us.take x.1) g).length x.2.2.1))], [], x.2.2.2⟩)
    (fun x => x.1 ≤ us.length ∧ (x.1 = 0 ∨ usersOk us = true) ∧ Below w.heap.size w x.2.2.2 ∧ Buf w.heap.size x.2.2.2 x.2.1 (mems (us.take x.1) g).length x.2.2.1 1 (ints (mems (us.take x.1) g))) (fun x => us.length - x.1) (0, some ⟨g0, 0, none⟩, 0, w0)
    ⟨Nat.zero_le _, .inl rfl, hx0, hb0⟩ ⟨⟨rfl, rfl, rfl, rfl, trivial⟩, trivial, trivial, Ext.refl _⟩ ?_
  rintro ⟨k, ad', cap', wk⟩ ⟨hk, hok, hx, hb⟩
  dsimp only at hk hok hx hb ⊢
  repeat (first | refine jC ?_ | refine jN ?_ | refine jS ?_ | refine jR ?_ | refine jT ?_ | refine jB ?_ | refine jX rfl ?_ | refine jY rfl ?_ | refine jK ?_ | refine jD ?_ | refine jE ?_)
  refine Br.intro (fun h => ?_) (fun h => ?_)
  · have hlt : k < us.length := by have := of_decide_eq_true h; omega
    obtain ⟨b, o, rfl, hbl, hc⟩ := hat (by omega)
    have hu : us[k]? = some us[k] := List.getElem?_eq_getElem hlt
    generalize us[k] = u at hu
    have hsn := mems_snoc hu g
    have hml : (mems (us.take k) g).length ≤ k := by
      unfold mems
      rw [List.length_map]
      exact Nat.le_trans (List.length_filter_le _ _) (by simp; omega)
    have hUk : Uss wk (.slice (some ⟨b, o, none⟩) us.length cap) us := RowN.below hU hx
    repeat (first | refine jC ?_ | refine jN ?_ | refine jS ?_ | refine jR ?_ | refine jT ?_ | refine jB ?_ | refine jX rfl ?_ | refine jY rfl ?_ | refine jK ?_ | refine jD ?_ | refine jE ?_)
    refine CallV.val (fun w' hw _ => sUsersValid_vc us _ w' (hUk.ext hw) hwf) ?_
    repeat (first | refine jC ?_ | refine jN ?_ | refine jS ?_ | refine jR ?_ | refine jT ?_ | refine jB ?_ | refine jX rfl ?_ | refine jY rfl ?_ | refine jK ?_ | refine jD ?_ | refine jE ?_)
    refine Br.intro (fun h1 => ?_) (fun h1 => ?_)
    · repeat (first | refine jC ?_ | refine jN ?_ | refine jS ?_ | refine jR ?_ | refine jT ?_ | refine jB ?_ | refine jX rfl ?_ | refine jY rfl ?_ | refine jK ?_ | refine jD ?_ | refine jE ?_)
      refine Ix.mk k rfl hlt ?_
      repeat (first | refine jC ?_ | refine jN ?_ | refine jS ?_ | refine jR ?_ | refine jT ?_ | refine jB ?_ | refine jX rfl ?_ | refine jY rfl ?_ | refine jK ?_ | refine jD ?_ | refine jE ?_)
      refine Ld.mk (((hc k _ hu).below hx (.inr hbl)).out 2 _ rfl) ?_
      repeat (first | refine jC ?_ | refine jN ?_ | refine jS ?_ | refine jR ?_ | refine jT ?_ | refine jB ?_ | refine jX rfl ?_ | refine jY rfl ?_ | refine jK ?_ | refine jD ?_ | refine jE ?_)
      refine CallV.val (fun w' _ _ => (sHasGroup_any u.grp g w').of_same) ?_
      repeat (first | refine jC ?_ | refine jN ?_ | refine jS ?_ | refine jR ?_ | refine jT ?_ | refine jB ?_ | refine jX rfl ?_ | refine jY rfl ?_ | refine jK ?_ | refine jD ?_ | refine jE ?_)
      refine Br.intro (fun h2 => ?_) (fun h2 => ?_)
      · rw [if_pos h2] at hsn
        repeat (first | refine jC ?_ | refine jN ?_ | refine jS ?_ | refine jR ?_ | refine jT ?_ | refine jB ?_ | refine jX rfl ?_ | refine jY rfl ?_ | refine jK ?_ | refine jD ?_ | refine jE ?_)
        refine Ix.mk k rfl hlt ?_
        repeat (first | refine jC ?_ | refine jN ?_ | refine jS ?_ | refine jR ?_ | refine jT ?_ | refine jB ?_ | refine jX rfl ?_ | refine jY rfl ?_ | refine jK ?_ | refine jD ?_ | refine jE ?_)
        refine Ld.mk (((hc k _ hu).below hx (.inr hbl)).out 1 _ rfl) ?_
        repeat (first | refine jC ?_ | refine jN ?_ | refine jS ?_ | refine jR ?_ | refine jT ?_ | refine jB ?_ | refine jX rfl ?_ | refine jY rfl ?_ | refine jK ?_ | refine jD ?_ | refine jE ?_)
        refine Made.mk fun g2 w2 hx2 hg21 hg22 hg23 hne => ?_
        repeat (first | refine jC ?_ | refine jN ?_ | refine jS ?_ | refine jR ?_ | refine jT ?_ | refine jB ?_ | refine jX rfl ?_ | refine jY rfl ?_ | refine jK ?_ | refine jD ?_ | refine jE ?_)
        refine AppV.buf (hb.ext hx2) (news := [.int .i64 u.num]) (CellsAt.of_block hg23 (fun i v hi => by simpa using hi)) rfl (by simp [Value.oneCell']) (fun p hp => trivial) (by omega) (by omega) rfl (by have := hx2.size; have := hx.size; omega) (fun ad3 cap3 A3 hb3 hx3 hf3 => ?_)
        repeat (first | refine jC ?_ | refine jN ?_ | refine jS ?_ | refine jR ?_ | refine jT ?_ | refine jB ?_ | refine jX rfl ?_ | refine jY rfl ?_ | refine jK ?_ | refine jD ?_ | refine jE ?_)
        refine ⟨I64.mk (by omega), ?_⟩
        repeat (first | refine jC ?_ | refine jN ?_ | refine jS ?_ | refine jR ?_ | refine jT ?_ | refine jB ?_ | refine jX rfl ?_ | refine jY rfl ?_ | refine jK ?_ | refine jD ?_ | refine jE ?_)
        have e : (mems (us.take (k + 1)) g).length = (mems (us.take k) g).length + 1 := by rw [hsn]; simp
        refine ⟨(k + 1, ad3, cap3, A3), ⟨hlt, .inr h1, hx.trans ((hx2.mono hx.size).trans hx3), ?_⟩, by show us.length - (k + 1) < us.length - k; omega, ⟨rfl, rfl, rfl, ?_, trivial⟩, trivial, trivial, Ext.refl _⟩
        · show Buf _ A3 ad3 (mems (us.take (k + 1)) g).length cap3 1 (ints (mems (us.take (k + 1)) g))
          rw [e, hsn, ints, List.map_append]
          exact hb3
        · show some _ = some _
          rw [e]
      · rw [if_neg (by simp [h2])] at hsn
        repeat (first | refine jC ?_ | refine jN ?_ | refine jS ?_ | refine jR ?_ | refine jT ?_ | refine jB ?_ | refine jX rfl ?_ | refine jY rfl ?_ | refine jK ?_ | refine jD ?_ | refine jE ?_)
        refine ⟨I64.mk (by omega), ?_⟩
        repeat (first | refine jC ?_ | refine jN ?_ | refine jS ?_ | refine jR ?_ | refine jT ?_ | refine jB ?_ | refine jX rfl ?_ | refine jY rfl ?_ | refine jK ?_ | refine jD ?_ | refine jE ?_)
        refine ⟨(k + 1, ad', cap', wk), ⟨hlt, .inr h1, hx, ?_⟩, by show us.length - (k + 1) < us.length - k; omega, ⟨rfl, rfl, rfl, ?_, trivial⟩, trivial, trivial, Ext.refl _⟩
        · show Buf _ wk ad' (mems (us.take (k + 1)) g).length cap' 1 (ints (mems (us.take (k + 1)) g))
          rw [hsn]; exact hb
        · show some _ = some _
          rw [hsn]
    · repeat (first | refine jC ?_ | refine jN ?_ | refine jS ?_ | refine jR ?_ | refine jT ?_ | refine jB ?_ | refine jX rfl ?_ | refine jY rfl ?_ | refine jK ?_ | refine jD ?_ | refine jE ?_)
      have hk0 : k = 0 := by
        rcases hok with h | h
        · exact h
        · rw [h] at h1; cases h1
      subst hk0
      refine EndV.mk fun w' hw' => ⟨_, rfl, ⟨_, _, _, rfl, ?_⟩, Ext.trans' hx (hw'.mono hx.size)⟩
      rw [members, if_neg (by simp [h1])]
      exact hb.ext hw'
  · have hke : k = us.length := by have := of_decide_eq_false h; omega
    subst hke
    repeat (first | refine jC ?_ | refine jN ?_ | refine jS ?_ | refine jR ?_ | refine jT ?_ | refine jB ?_ | refine jX rfl ?_ | refine jY rfl ?_ | refine jK ?_ | refine jD ?_ | refine jE ?_)
    refine EndV.mk fun w' hw' => ⟨_, rfl, ⟨_, _, _, rfl, ?_⟩, Ext.trans' hx (hw'.mono hx.size)⟩
    rw [List.take_length] at hb ⊢
    have e : members us g = mems us g := by
      unfold members
      split
      · rfl
      · rename_i hno
        rcases hok with h | h
        · have : us = [] := List.eq_nil_of_length_eq_zero h
          subst this; rfl
        · exact absurd h hno
    rw [e]
    exact hb.ext hw'
theorem markUserS_vc (v : Value) (n g : Nat) (k : Int) (w : World) (hw : WrN w v n 3 g) (h0 : 0 ≤ k) (h1 : k ≤ 1048576) (hn : n ≤ 1048576) :
    Calls Try.prog 41 #[v, .int .i64 k] w fun e w' => e = .returned (.int .i64 (k + 3 * n)) ∧ Exc g w w' := by
  obtain ⟨ad, cap, rfl, hlc, hcm, hat⟩ := hw
  refine calls_of cx_ok Try.func41 Try.ntmps41 Try.results41 rfl rfl ?_
  repeat (first | refine jC ?_ | refine jN ?_ | refine jS ?_ | refine jR ?_ | refine jT ?_ | refine jB ?_ | refine jX rfl ?_ | refine jY rfl ?_ | refine jK ?_ | refine jD ?_ | refine jE ?_)
  refine WpC.loop (α := Nat × World) (fun x => ⟨[(0, .v (.slice ad n cap)), (1, .v (.int .i64 (k + 3 * x.1))), (5, .v (.int .i64 (x.1 : Int)))], [], x.2⟩)
    (fun x => x.1 ≤ n ∧ Exc g w x.2 ∧ ∀ o, ad = some ⟨g, o, none⟩ → 0 < n → MutN x.2 g o (n * 3)) (fun x => n - x.1) (0, w)
    ⟨Nat.zero_le _, Exc.refl _ _, fun o e h0 => by obtain ⟨o', e', hm⟩ := hat h0; rw [e] at e'; cases e'; exact hm⟩ ⟨⟨rfl, by show some _ = some _; simp, rfl, trivial⟩, trivial, trivial, Ext.refl _⟩ ?_
  rintro ⟨i, wi⟩ ⟨hi, hx, hc⟩
  dsimp only at hi hx hc ⊢
  repeat (first | refine jC ?_ | refine jN ?_ | refine jS ?_ | refine jR ?_ | refine jT ?_ | refine jB ?_ | refine jX rfl ?_ | refine jY rfl ?_ | refine jK ?_ | refine jD ?_ | refine jE ?_)
  refine Br.intro (fun h => ?_) (fun h => ?_)
  · have hlt : i < n := by have := of_decide_eq_true h; omega
    obtain ⟨o, rfl, _⟩ := hat (by omega)
    have hm := hc o rfl (by omega)
    repeat (first | refine jC ?_ | refine jN ?_ | refine jS ?_ | refine jR ?_ | refine jT ?_ | refine jB ?_ | refine jX rfl ?_ | refine jY rfl ?_ | refine jK ?_ | refine jD ?_ | refine jE ?_)
    refine CallV.val (fun w' _ _ => markText_vc (k + 3 * i) w' (by omega)) ?_
    repeat (first | refine jC ?_ | refine jN ?_ | refine jS ?_ | refine jR ?_ | refine jT ?_ | refine jB ?_ | refine jX rfl ?_ | refine jY rfl ?_ | refine jK ?_ | refine jD ?_ | refine jE ?_)
    refine Ix.mk i rfl hlt ?_
    repeat (first | refine jC ?_ | refine jN ?_ | refine jS ?_ | refine jR ?_ | refine jT ?_ | refine jB ?_ | refine jX rfl ?_ | refine jY rfl ?_ | refine jK ?_ | refine jD ?_ | refine jE ?_)
    have hm1 : MutN wi g (o + i * 3 + 0) 1 := by have := hm.sub (k := i * 3) (m := 1) (by omega); simpa using this
    refine ⟨hm1, trivial, rfl, by simp [Value.oneCell'], ?_⟩
    repeat (first | refine jC ?_ | refine jN ?_ | refine jS ?_ | refine jR ?_ | refine jT ?_ | refine jB ?_ | refine jX rfl ?_ | refine jY rfl ?_ | refine jK ?_ | refine jD ?_ | refine jE ?_)
    refine ⟨I64.mk (by omega), ?_⟩
    repeat (first | refine jC ?_ | refine jN ?_ | refine jS ?_ | refine jR ?_ | refine jT ?_ | refine jB ?_ | refine jX rfl ?_ | refine jY rfl ?_ | refine jK ?_ | refine jD ?_ | refine jE ?_)
    refine Ix.mk i rfl hlt ?_
    repeat (first | refine jC ?_ | refine jN ?_ | refine jS ?_ | refine jR ?_ | refine jT ?_ | refine jB ?_ | refine jX rfl ?_ | refine jY rfl ?_ | refine jK ?_ | refine jD ?_ | refine jE ?_)
    have hm2 : MutN (setL wi g (o + i * 3 + 0) [.string (markT (k + 3 * i))]) g (o + i * 3 + 1) 1 := MutN.setL _ _ _ (by have := hm.sub (k := i * 3 + 1) (m := 1) (by omega); rwa [← Nat.add_assoc] at this)
    refine ⟨hm2, trivial, rfl, by simp [Value.oneCell'], ?_⟩
    repeat (first | refine jC ?_ | refine jN ?_ | refine jS ?_ | refine jR ?_ | refine jT ?_ | refine jB ?_ | refine jX rfl ?_ | refine jY rfl ?_ | refine jK ?_ | refine jD ?_ | refine jE ?_)
    refine ⟨I64.mk (by omega), ?_⟩
    repeat (first | refine jC ?_ | refine jN ?_ | refine jS ?_ | refine jR ?_ | refine jT ?_ | refine jB ?_ | refine jX rfl ?_ | refine jY rfl ?_ | refine jK ?_ | refine jD ?_ | refine jE ?_)
    refine Ix.mk i rfl hlt ?_
    repeat (first | refine jC ?_ | refine jN ?_ | refine jS ?_ | refine jR ?_ | refine jT ?_ | refine jB ?_ | refine jX rfl ?_ | refine jY rfl ?_ | refine jK ?_ | refine jD ?_ | refine jE ?_)
    have hm3 : MutN (setL (setL wi g (o + i * 3 + 0) [.string (markT (k + 3 * i))]) g (o + i * 3 + 1) [.int .i64 (k + 3 * i + 1)]) g (o + i * 3 + 2) 1 :=
      MutN.setL _ _ _ (MutN.setL _ _ _ (by have := hm.sub (k := i * 3 + 2) (m := 1) (by omega); rwa [← Nat.add_assoc] at this))
    refine ⟨hm3, trivial, rfl, by simp [Value.oneCell'], ?_⟩
    repeat (first | refine jC ?_ | refine jN ?_ | refine jS ?_ | refine jR ?_ | refine jT ?_ | refine jB ?_ | refine jX rfl ?_ | refine jY rfl ?_ | refine jK ?_ | refine jD ?_ | refine jE ?_)
    refine ⟨I64.mk (by omega), ?_⟩
    repeat (first | refine jC ?_ | refine jN ?_ | refine jS ?_ | refine jR ?_ | refine jT ?_ | refine jB ?_ | refine jX rfl ?_ | refine jY rfl ?_ | refine jK ?_ | refine jD ?_ | refine jE ?_)
    refine ⟨I64.mk (by omega), ?_⟩
    repeat (first | refine jC ?_ | refine jN ?_ | refine jS ?_ | refine jR ?_ | refine jT ?_ | refine jB ?_ | refine jX rfl ?_ | refine jY rfl ?_ | refine jK ?_ | refine jD ?_ | refine jE ?_)
    refine ⟨(i + 1, setL (setL (setL wi g (o + i * 3 + 0) [.string (markT (k + 3 * i))]) g (o + i * 3 + 1) [.int .i64 (k + 3 * i + 1)]) g (o + i * 3 + 2) [.int .i64 (k + 3 * i + 1 + 1)]), ?_, by show n - (i + 1) < n - i; omega, ⟨rfl, by show some _ = some _; rw [show k + 3 * (i : Int) + 1 + 1 + 1 = k + 3 * ((i + 1 : Nat) : Int) by omega], rfl, trivial⟩, trivial, trivial, Ext.refl _⟩
    refine ⟨hlt, ((hx.setL _ _).setL _ _).setL _ _, fun o' e _ => ?_⟩
    cases e
    exact MutN.setL _ _ _ (MutN.setL _ _ _ (MutN.setL _ _ _ hm))
  · have hie : i = n := by have := of_decide_eq_false h; omega
    subst hie
    repeat (first | refine jC ?_ | refine jN ?_ | refine jS ?_ | refine jR ?_ | refine jT ?_ | refine jB ?_ | refine jX rfl ?_ | refine jY rfl ?_ | refine jK ?_ | refine jD ?_ | refine jE ?_)
    exact EndV.mk fun w' hw' => ⟨rfl, hx.trans (Exc.of_ext hw')⟩
end Go.Proofs.Ytifnjinkddelmaa
