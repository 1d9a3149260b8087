/-
  Contracts: UsersValid, the place of a name, UserNamed, the program's and the reference's.
  Conditions: none but a bound of each name.
-/
import Derived.Test.YtifnjinkddelmaaUsrP
import Derived.Test.YtifnjinkddelmaaNames
namespace Go.Proofs.Ytifnjinkddelmaa
open Go.RowKit Vc
attribute [local irreducible] WpC WpL WpD CallV QCallV Made AppV Ld LdN Ix EndV I64 MutN Mut CellsAt

theorem Uss.take {w : World} {ad : Option Addr} {us : List Us} {cap : Nat} (h : Uss w (.slice ad us.length cap) us) (k : Nat) (hk : k ≤ us.length) : Uss w (.slice ad k cap) (us.take k) := by
  obtain ⟨ad', cap', e, h2, h3, h4⟩ := h
  rw [List.length_map] at e
  cases e
  have hl : ((us.take k).map Us.cells).length = k := by simp [hk]
  simp only [List.length_map] at h2 h4
  refine ⟨_, _, by rw [hl], by rw [hl]; omega, h3, fun h0 => ?_⟩
  rw [hl] at h0
  obtain ⟨b, o, h5, h6, h7⟩ := h4 (by omega)
  refine ⟨b, o, h5, h6, fun i l hi => h7 i l ?_⟩
  rw [List.getElem?_map] at hi ⊢
  rw [List.getElem?_take] at hi
  split at hi
  · exact hi
  · simp at hi
theorem placeFn_vc (u : Us) (nm : ByteArray) (b : Nat) (w : World) (hc : w.cell? ⟨b, 0, none⟩ = some (.string nm)) :
    Gives Try.prog 84 #[u.val, .pointer (some ⟨b, 0, none⟩)] w (.bool (same u.name nm)) := by
  refine calls_of cx_ok Try.func84 Try.ntmps84 Try.results84 rfl rfl ?_
  repeat (first | refine jC ?_ | refine jN ?_ | refine jS ?_ | refine jR ?_ | refine jT ?_ | refine jB ?_ | refine jX rfl ?_ | refine jY rfl ?_ | refine jK ?_ | refine jD ?_ | refine jE ?_)
  intro b1 hb1
  repeat (first | refine jC ?_ | refine jN ?_ | refine jS ?_ | refine jR ?_ | refine jT ?_ | refine jB ?_ | refine jX rfl ?_ | refine jY rfl ?_ | refine jK ?_ | refine jD ?_ | refine jE ?_)
  refine Ld.mk hc ?_
  repeat (first | refine jC ?_ | refine jN ?_ | refine jS ?_ | refine jR ?_ | refine jT ?_ | refine jB ?_ | refine jX rfl ?_ | refine jY rfl ?_ | refine jK ?_ | refine jD ?_ | refine jE ?_)
  exact EndV.val rfl (Ext.refl _)
theorem placeIx_vc (us : List Us) (v : Value) (nm : ByteArray) (b : Nat) (w : World) (hU : Uss w v us) (hc : w.cell? ⟨b, 0, none⟩ = some (.string nm)) :
    Gives Try.prog 83 #[v, .func (.func 84) #[] #[.pointer (some ⟨b, 0, none⟩)]] w (.int .i64 (plc us nm)) := by
  obtain ⟨ad, cap, rfl, hlc, hcm, hat⟩ := hU.open
  refine calls_of cx_ok Try.func83 Try.ntmps83 Try.results83 rfl rfl ?_
  repeat (first | refine jC ?_ | refine jN ?_ | refine jS ?_ | refine jR ?_ | refine jT ?_ | refine jB ?_ | refine jX rfl ?_ | refine jY rfl ?_ | refine jK ?_ | refine jD ?_ | refine jE ?_)
  refine WpC.loop (α := Nat) (fun x => ⟨[(0, .v (.slice ad us.length cap)), (1, .v (.func (.func 84) #[] #[.pointer (some ⟨b, 0, none⟩)])), (7, .v (.int .i64 (us.length : Int))), (8, .v (.int .i64 (x : Int)))], [], w⟩)
    (fun x => x ≤ us.length ∧ ∀ (j : Nat) (y : Us), j < x → us[j]? = some y → same y.name nm = false) (fun x => us.length - x) 0 ⟨Nat.zero_le _, fun j y hj => absurd hj (by omega)⟩ ⟨⟨rfl, rfl, rfl, rfl, trivial⟩, trivial, trivial, Ext.refl _⟩ ?_
  rintro k ⟨hk, hn⟩
  repeat (first | refine jC ?_ | refine jN ?_ | refine jS ?_ | refine jR ?_ | refine jT ?_ | refine jB ?_ | refine jX rfl ?_ | refine jY rfl ?_ | refine jK ?_ | refine jD ?_ | refine jE ?_)
  refine Br.intro (fun h => ?_) (fun h => ?_)
  · have hlt : k < us.length := by have := of_decide_eq_true h; omega
    obtain ⟨b', o, rfl, hb, hcs⟩ := hat (by omega)
    have hu : us[k]? = some us[k] := List.getElem?_eq_getElem hlt
    repeat (first | refine jC ?_ | refine jN ?_ | refine jS ?_ | refine jR ?_ | refine jT ?_ | refine jB ?_ | refine jX rfl ?_ | refine jY rfl ?_ | refine jK ?_ | refine jD ?_ | refine jE ?_)
    refine Ix.mk k rfl hlt ?_
    repeat (first | refine jC ?_ | refine jN ?_ | refine jS ?_ | refine jR ?_ | refine jT ?_ | refine jB ?_ | refine jX rfl ?_ | refine jY rfl ?_ | refine jK ?_ | refine jD ?_ | refine jE ?_)
    refine LdN.mk (hcs k _ hu) rfl ?_
    repeat (first | refine jC ?_ | refine jN ?_ | refine jS ?_ | refine jR ?_ | refine jT ?_ | refine jB ?_ | refine jX rfl ?_ | refine jY rfl ?_ | refine jK ?_ | refine jD ?_ | refine jE ?_)
    refine CallV.val (fun w' hw _ => placeFn_vc us[k] nm b w' (cell_ext hw hc)) ?_
    repeat (first | refine jC ?_ | refine jN ?_ | refine jS ?_ | refine jR ?_ | refine jT ?_ | refine jB ?_ | refine jX rfl ?_ | refine jY rfl ?_ | refine jK ?_ | refine jD ?_ | refine jE ?_)
    refine Br.intro (fun h2 => ?_) (fun h2 => ?_)
    · repeat (first | refine jC ?_ | refine jN ?_ | refine jS ?_ | refine jR ?_ | refine jT ?_ | refine jB ?_ | refine jX rfl ?_ | refine jY rfl ?_ | refine jK ?_ | refine jD ?_ | refine jE ?_)
      exact EndV.val (by rw [plc_hit hu h2 hn]) (Ext.refl _)
    · repeat (first | refine jC ?_ | refine jN ?_ | refine jS ?_ | refine jR ?_ | refine jT ?_ | refine jB ?_ | refine jX rfl ?_ | refine jY rfl ?_ | refine jK ?_ | refine jD ?_ | refine jE ?_)
      refine ⟨I64.mk (by omega), ?_⟩
      repeat (first | refine jC ?_ | refine jN ?_ | refine jS ?_ | refine jR ?_ | refine jT ?_ | refine jB ?_ | refine jX rfl ?_ | refine jY rfl ?_ | refine jK ?_ | refine jD ?_ | refine jE ?_)
      refine ⟨k + 1, ⟨hlt, fun j y hj hy => ?_⟩, by show us.length - (k + 1) < us.length - k; omega, ⟨rfl, rfl, rfl, rfl, trivial⟩, trivial, trivial, Ext.refl _⟩
      rcases Nat.lt_or_ge j k with hjk | hjk
      · exact hn j y hjk hy
      · have : j = k := by omega
        subst this
        rw [hu] at hy
        cases hy
        exact h2
  · have hke : k = us.length := by have := of_decide_eq_false h; omega
    subst hke
    repeat (first | refine jC ?_ | refine jN ?_ | refine jS ?_ | refine jR ?_ | refine jT ?_ | refine jB ?_ | refine jX rfl ?_ | refine jY rfl ?_ | refine jK ?_ | refine jD ?_ | refine jE ?_)
    exact EndV.val (by rw [plc_none hn]) (Ext.refl _)
theorem userPlace_vc (us : List Us) (v : Value) (nm : ByteArray) (w : World) (hU : Uss w v us) : Gives Try.prog 71 #[v, .string nm] w (.int .i64 (plc us nm)) := by
  obtain ⟨ad, cap, rfl, _⟩ := hU.open
  refine calls_of cx_ok Try.func71 Try.ntmps71 Try.results71 rfl rfl ?_
  repeat (first | refine jC ?_ | refine jN ?_ | refine jS ?_ | refine jR ?_ | refine jT ?_ | refine jB ?_ | refine jX rfl ?_ | refine jY rfl ?_ | refine jK ?_ | refine jD ?_ | refine jE ?_)
  intro b hb
  repeat (first | refine jC ?_ | refine jN ?_ | refine jS ?_ | refine jR ?_ | refine jT ?_ | refine jB ?_ | refine jX rfl ?_ | refine jY rfl ?_ | refine jK ?_ | refine jD ?_ | refine jE ?_)
  refine CallV.val (fun w' hw hO => placeIx_vc us _ nm b w' (hU.ext hw) (by have := hO.1 0 _ rfl; simp [World.cell?, this])) ?_
  repeat (first | refine jC ?_ | refine jN ?_ | refine jS ?_ | refine jR ?_ | refine jT ?_ | refine jB ?_ | refine jX rfl ?_ | refine jY rfl ?_ | refine jK ?_ | refine jD ?_ | refine jE ?_)
  exact EndV.val rfl (Ext.refl _)
theorem iUsersValid_vc (us : List Us) (v : Value) (w : World) (hU : Uss w v us) (hwf : ∀ u ∈ us, u.wf) : Gives Try.prog 29 #[v] w (.bool (usersOk us)) := by
  obtain ⟨ad, cap, rfl, hlc, hcm, hat⟩ := hU.open
  refine calls_of cx_ok Try.func29 Try.ntmps29 Try.results29 rfl rfl ?_
  repeat (first | refine jC ?_ | refine jN ?_ | refine jS ?_ | refine jR ?_ | refine jT ?_ | refine jB ?_ | refine jX rfl ?_ | refine jY rfl ?_ | refine jK ?_ | refine jD ?_ | refine jE ?_)
  refine WpC.loop (α := Nat) (fun x => ⟨[(0, .v (.slice ad us.length cap)), (5, .v (.slice ad us.length cap)), (6, .v (.int .i64 (us.length : Int))), (7, .v (.int .i64 (x : Int)))], [], w⟩)
    (fun x => x ≤ us.length ∧ ∀ j : Nat, j < x → uAt us j = true) (fun x => us.length - x) 0 ⟨Nat.zero_le _, fun j hj => absurd hj (by omega)⟩ ⟨⟨rfl, rfl, rfl, rfl, trivial⟩, trivial, trivial, Ext.refl _⟩ ?_
  rintro k ⟨hk, hn⟩
  repeat (first | refine jC ?_ | refine jN ?_ | refine jS ?_ | refine jR ?_ | refine jT ?_ | refine jB ?_ | refine jX rfl ?_ | refine jY rfl ?_ | refine jK ?_ | refine jD ?_ | refine jE ?_)
  refine Br.intro (fun h => ?_) (fun h => ?_)
  · have hlt : k < us.length := by have := of_decide_eq_true h; omega
    obtain ⟨b, o, rfl, hb, hc⟩ := hat (by omega)
    have hu : us[k]? = some us[k] := List.getElem?_eq_getElem hlt
    have hw := hwf _ (List.getElem_mem hlt)
    have hbad : uAt us k = false → usersOk us = false := fun e => usersOk_bad hlt e
    have hstep : uAt us k = true → ∀ j, j < k + 1 → uAt us j = true := fun e j hj => by
      rcases Nat.lt_or_ge j k with hjk | hjk
      · exact hn j hjk
      · have : j = k := by omega
        subst this; exact e
    generalize us[k] = u at hu hw
    repeat (first | refine jC ?_ | refine jN ?_ | refine jS ?_ | refine jR ?_ | refine jT ?_ | refine jB ?_ | refine jX rfl ?_ | refine jY rfl ?_ | refine jK ?_ | refine jD ?_ | refine jE ?_)
    refine Ix.mk k rfl hlt ?_
    repeat (first | refine jC ?_ | refine jN ?_ | refine jS ?_ | refine jR ?_ | refine jT ?_ | refine jB ?_ | refine jX rfl ?_ | refine jY rfl ?_ | refine jK ?_ | refine jD ?_ | refine jE ?_)
    refine LdN.mk (hc k _ hu) rfl ?_
    repeat (first | refine jC ?_ | refine jN ?_ | refine jS ?_ | refine jR ?_ | refine jT ?_ | refine jB ?_ | refine jX rfl ?_ | refine jY rfl ?_ | refine jK ?_ | refine jD ?_ | refine jE ?_)
    intro b1 hb1
    repeat (first | refine jC ?_ | refine jN ?_ | refine jS ?_ | refine jR ?_ | refine jT ?_ | refine jB ?_ | refine jX rfl ?_ | refine jY rfl ?_ | refine jK ?_ | refine jD ?_ | refine jE ?_)
    refine ⟨by assumption, rfl, by simp, by simp [Value.oneCell'], ?_⟩
    repeat (first | refine jC ?_ | refine jN ?_ | refine jS ?_ | refine jR ?_ | refine jT ?_ | refine jB ?_ | refine jX rfl ?_ | refine jY rfl ?_ | refine jK ?_ | refine jD ?_ | refine jE ?_)
    refine WpC.draw (by kernel_rfl) ?_
    repeat (first | refine jC ?_ | refine jN ?_ | refine jS ?_ | refine jR ?_ | refine jT ?_ | refine jB ?_ | refine jX rfl ?_ | refine jY rfl ?_ | refine jK ?_ | refine jD ?_ | refine jE ?_)
    refine QCallV.val (fun w' _ _ => (iNameValid_any u.name w' (by have := hw.1; unfold maxLen; omega)).of_same) ?_
    repeat (first | refine jC ?_ | refine jN ?_ | refine jS ?_ | refine jR ?_ | refine jT ?_ | refine jB ?_ | refine jX rfl ?_ | refine jY rfl ?_ | refine jK ?_ | refine jD ?_ | refine jE ?_)
    refine Br.intro (fun h1 => ?_) (fun h1 => ?_)
    · repeat (first | refine jC ?_ | refine jN ?_ | refine jS ?_ | refine jR ?_ | refine jT ?_ | refine jB ?_ | refine jX rfl ?_ | refine jY rfl ?_ | refine jK ?_ | refine jD ?_ | refine jE ?_)
      exact EndV.val (by rw [hbad (uAt_name hu (by simpa using h1))]) (Ext.refl _)
    repeat (first | refine jC ?_ | refine jN ?_ | refine jS ?_ | refine jR ?_ | refine jT ?_ | refine jB ?_ | refine jX rfl ?_ | refine jY rfl ?_ | refine jK ?_ | refine jD ?_ | refine jE ?_)
    refine ⟨k, rfl, by omega, ?_⟩
    repeat (first | refine jC ?_ | refine jN ?_ | refine jS ?_ | refine jR ?_ | refine jT ?_ | refine jB ?_ | refine jX rfl ?_ | refine jY rfl ?_ | refine jK ?_ | refine jD ?_ | refine jE ?_)
    refine QCallV.val (fun w' hw' _ => userPlace_vc (us.take k) _ u.name w' ((hU.take k hk).ext hw')) ?_
    repeat (first | refine jC ?_ | refine jN ?_ | refine jS ?_ | refine jR ?_ | refine jT ?_ | refine jB ?_ | refine jX rfl ?_ | refine jY rfl ?_ | refine jK ?_ | refine jD ?_ | refine jE ?_)
    refine Br.intro (fun h2 => ?_) (fun h2 => ?_)
    · repeat (first | refine jC ?_ | refine jN ?_ | refine jS ?_ | refine jR ?_ | refine jT ?_ | refine jB ?_ | refine jX rfl ?_ | refine jY rfl ?_ | refine jK ?_ | refine jD ?_ | refine jE ?_)
      exact EndV.val (by rw [hbad (uAt_plc hu (of_decide_eq_true h2))]) (Ext.refl _)
    repeat (first | refine jC ?_ | refine jN ?_ | refine jS ?_ | refine jR ?_ | refine jT ?_ | refine jB ?_ | refine jX rfl ?_ | refine jY rfl ?_ | refine jK ?_ | refine jD ?_ | refine jE ?_)
    refine QCallV.val (fun w' _ _ => (isUser_any u.num w').of_same) ?_
    repeat (first | refine jC ?_ | refine jN ?_ | refine jS ?_ | refine jR ?_ | refine jT ?_ | refine jB ?_ | refine jX rfl ?_ | refine jY rfl ?_ | refine jK ?_ | refine jD ?_ | refine jE ?_)
    refine Br.intro (fun h3 => ?_) (fun h3 => ?_)
    · repeat (first | refine jC ?_ | refine jN ?_ | refine jS ?_ | refine jR ?_ | refine jT ?_ | refine jB ?_ | refine jX rfl ?_ | refine jY rfl ?_ | refine jK ?_ | refine jD ?_ | refine jE ?_)
      exact EndV.val (by rw [hbad (uAt_num hu (by simpa using h3))]) (Ext.refl _)
    repeat (first | refine jC ?_ | refine jN ?_ | refine jS ?_ | refine jR ?_ | refine jT ?_ | refine jB ?_ | refine jX rfl ?_ | refine jY rfl ?_ | refine jK ?_ | refine jD ?_ | refine jE ?_)
    refine QCallV.val (fun w' _ _ => (within_any u.grp 0 255 w').of_same) ?_
    repeat (first | refine jC ?_ | refine jN ?_ | refine jS ?_ | refine jR ?_ | refine jT ?_ | refine jB ?_ | refine jX rfl ?_ | refine jY rfl ?_ | refine jK ?_ | refine jD ?_ | refine jE ?_)
    refine Br.intro (fun h4 => ?_) (fun h4 => ?_)
    · repeat (first | refine jC ?_ | refine jN ?_ | refine jS ?_ | refine jR ?_ | refine jT ?_ | refine jB ?_ | refine jX rfl ?_ | refine jY rfl ?_ | refine jK ?_ | refine jD ?_ | refine jE ?_)
      exact EndV.val (by rw [hbad (uAt_grp hu (by simpa using h4))]) (Ext.refl _)
    repeat (first | refine jC ?_ | refine jN ?_ | refine jS ?_ | refine jR ?_ | refine jT ?_ | refine jB ?_ | refine jX rfl ?_ | refine jY rfl ?_ | refine jK ?_ | refine jD ?_ | refine jE ?_)
    have hall := fun h5 => hstep (uAt_ok hu (by simpa using h1) (by simpa using h3) (by simpa using h4) (by have := of_decide_eq_false h2; omega) h5)
    refine Br.intro (fun h5 => ?_) (fun h5 => ?_)
    · have hk0 : 0 < k := by have := of_decide_eq_true h5; omega
      have hp : us[k - 1]? = some us[k - 1] := List.getElem?_eq_getElem (by omega)
      repeat (first | refine jC ?_ | refine jN ?_ | refine jS ?_ | refine jR ?_ | refine jT ?_ | refine jB ?_ | refine jX rfl ?_ | refine jY rfl ?_ | refine jK ?_ | refine jD ?_ | refine jE ?_)
      refine ⟨I64.mk (by omega), ?_⟩
      repeat (first | refine jC ?_ | refine jN ?_ | refine jS ?_ | refine jR ?_ | refine jT ?_ | refine jB ?_ | refine jX rfl ?_ | refine jY rfl ?_ | refine jK ?_ | refine jD ?_ | refine jE ?_)
      refine Ix.mk (k - 1) (by omega) (by omega) ?_
      repeat (first | refine jC ?_ | refine jN ?_ | refine jS ?_ | refine jR ?_ | refine jT ?_ | refine jB ?_ | refine jX rfl ?_ | refine jY rfl ?_ | refine jK ?_ | refine jD ?_ | refine jE ?_)
      refine Ld.mk ((hc (k - 1) _ hp).out 1 _ rfl) ?_
      repeat (first | refine jC ?_ | refine jN ?_ | refine jS ?_ | refine jR ?_ | refine jT ?_ | refine jB ?_ | refine jX rfl ?_ | refine jY rfl ?_ | refine jK ?_ | refine jD ?_ | refine jE ?_)
      refine Br.intro (fun h6 => ?_) (fun h6 => ?_)
      · repeat (first | refine jC ?_ | refine jN ?_ | refine jS ?_ | refine jR ?_ | refine jT ?_ | refine jB ?_ | refine jX rfl ?_ | refine jY rfl ?_ | refine jK ?_ | refine jD ?_ | refine jE ?_)
        exact EndV.val (by rw [hbad (uAt_ord hu hk0 hp (of_decide_eq_true h6))]) (Ext.refl _)
      · repeat (first | refine jC ?_ | refine jN ?_ | refine jS ?_ | refine jR ?_ | refine jT ?_ | refine jB ?_ | refine jX rfl ?_ | refine jY rfl ?_ | refine jK ?_ | refine jD ?_ | refine jE ?_)
        refine ⟨I64.mk (by omega), ?_⟩
        repeat (first | refine jC ?_ | refine jN ?_ | refine jS ?_ | refine jR ?_ | refine jT ?_ | refine jB ?_ | refine jX rfl ?_ | refine jY rfl ?_ | refine jK ?_ | refine jD ?_ | refine jE ?_)
        exact ⟨k + 1, ⟨hlt, hall fun p _ hp' => by rw [hp] at hp'; cases hp'; have := of_decide_eq_false h6; omega⟩, by show us.length - (k + 1) < us.length - k; omega, ⟨rfl, rfl, rfl, rfl, trivial⟩, trivial, trivial, Ext.refl _⟩
    · have hk0 : k = 0 := by have := of_decide_eq_false h5; omega
      repeat (first | refine jC ?_ | refine jN ?_ | refine jS ?_ | refine jR ?_ | refine jT ?_ | refine jB ?_ | refine jX rfl ?_ | refine jY rfl ?_ | refine jK ?_ | refine jD ?_ | refine jE ?_)
      refine ⟨I64.mk (by omega), ?_⟩
      repeat (first | refine jC ?_ | refine jN ?_ | refine jS ?_ | refine jR ?_ | refine jT ?_ | refine jB ?_ | refine jX rfl ?_ | refine jY rfl ?_ | refine jK ?_ | refine jD ?_ | refine jE ?_)
      exact ⟨k + 1, ⟨hlt, hall fun p h0 _ => by omega⟩, by show us.length - (k + 1) < us.length - k; omega, ⟨rfl, rfl, rfl, rfl, trivial⟩, trivial, trivial, Ext.refl _⟩
  · have hke : k = us.length := by have := of_decide_eq_false h; omega
    subst hke
    repeat (first | refine jC ?_ | refine jN ?_ | refine jS ?_ | refine jR ?_ | refine jT ?_ | refine jB ?_ | refine jX rfl ?_ | refine jY rfl ?_ | refine jK ?_ | refine jD ?_ | refine jE ?_)
    exact EndV.val (by rw [usersOk_end hn]; congr 1; exact decide_eq_decide.2 (by omega)) (Ext.refl _)
theorem iUserNamed_vc (us : List Us) (v : Value) (nm : ByteArray) (w : World) (hU : Uss w v us) (hwf : ∀ u ∈ us, u.wf) : Gives Try.prog 33 #[v, .string nm] w (.int .i64 (userNo us nm)) := by
  obtain ⟨ad, cap, rfl, hlc, hcm, hat⟩ := hU.open
  refine calls_of cx_ok Try.func33 Try.ntmps33 Try.results33 rfl rfl ?_
  repeat (first | refine jC ?_ | refine jN ?_ | refine jS ?_ | refine jR ?_ | refine jT ?_ | refine jB ?_ | refine jX rfl ?_ | refine jY rfl ?_ | refine jK ?_ | refine jD ?_ | refine jE ?_)
  refine CallV.val (fun w' hw _ => userPlace_vc us _ nm w' (hU.ext hw)) ?_
  repeat (first | refine jC ?_ | refine jN ?_ | refine jS ?_ | refine jR ?_ | refine jT ?_ | refine jB ?_ | refine jX rfl ?_ | refine jY rfl ?_ | refine jK ?_ | refine jD ?_ | refine jE ?_)
  refine CallV.val (fun w' hw _ => iUsersValid_vc us _ w' (hU.ext hw) hwf) ?_
  repeat (first | refine jC ?_ | refine jN ?_ | refine jS ?_ | refine jR ?_ | refine jT ?_ | refine jB ?_ | refine jX rfl ?_ | refine jY rfl ?_ | refine jK ?_ | refine jD ?_ | refine jE ?_)
  refine Br.intro (fun h1 => ?_) (fun h1 => ?_)
  · repeat (first | refine jC ?_ | refine jN ?_ | refine jS ?_ | refine jR ?_ | refine jT ?_ | refine jB ?_ | refine jX rfl ?_ | refine jY rfl ?_ | refine jK ?_ | refine jD ?_ | refine jE ?_)
    exact EndV.val (by rw [userNo, if_neg (by simpa using h1)]) (Ext.refl _)
  repeat (first | refine jC ?_ | refine jN ?_ | refine jS ?_ | refine jR ?_ | refine jT ?_ | refine jB ?_ | refine jX rfl ?_ | refine jY rfl ?_ | refine jK ?_ | refine jD ?_ | refine jE ?_)
  refine Br.intro (fun h2 => ?_) (fun h2 => ?_)
  · repeat (first | refine jC ?_ | refine jN ?_ | refine jS ?_ | refine jR ?_ | refine jT ?_ | refine jB ?_ | refine jX rfl ?_ | refine jY rfl ?_ | refine jK ?_ | refine jD ?_ | refine jE ?_)
    have h2 := of_decide_eq_true h2
    rcases plc_cases us nm with ⟨k, u, hp, _⟩ | ⟨_, hn⟩
    · omega
    · exact EndV.val (by rw [userNo, if_pos (by simpa using h1), find_none hn]) (Ext.refl _)
  · have h2 := of_decide_eq_false h2
    rcases plc_cases us nm with ⟨k, u, hp, hu, hs, hn⟩ | ⟨hp, hn⟩
    · have hlt := (List.getElem?_eq_some_iff.1 hu).1
      obtain ⟨b, o, rfl, hb, hc⟩ := hat (by omega)
      repeat (first | refine jC ?_ | refine jN ?_ | refine jS ?_ | refine jR ?_ | refine jT ?_ | refine jB ?_ | refine jX rfl ?_ | refine jY rfl ?_ | refine jK ?_ | refine jD ?_ | refine jE ?_)
      refine Ix.mk k hp hlt ?_
      repeat (first | refine jC ?_ | refine jN ?_ | refine jS ?_ | refine jR ?_ | refine jT ?_ | refine jB ?_ | refine jX rfl ?_ | refine jY rfl ?_ | refine jK ?_ | refine jD ?_ | refine jE ?_)
      refine Ld.mk ((hc k _ hu).out 1 _ rfl) ?_
      repeat (first | refine jC ?_ | refine jN ?_ | refine jS ?_ | refine jR ?_ | refine jT ?_ | refine jB ?_ | refine jX rfl ?_ | refine jY rfl ?_ | refine jK ?_ | refine jD ?_ | refine jE ?_)
      exact EndV.val (by rw [userNo, if_pos (by simpa using h1), find_hit hu hs hn]) (Ext.refl _)
    · omega
theorem sUsersValid_vc (us : List Us) (v : Value) (w : World) (hU : Uss w v us) (hwf : ∀ u ∈ us, u.wf) : Gives Try.prog 27 #[v] w (.bool (usersOk us)) := by
  obtain ⟨ad, cap, rfl, hlc, hcm, hat⟩ := hU.open
  refine calls_of cx_ok Try.func27 Try.ntmps27 Try.results27 rfl rfl ?_
  repeat (first | refine jC ?_ | refine jN ?_ | refine jS ?_ | refine jR ?_ | refine jT ?_ | refine jB ?_ | refine jX rfl ?_ | refine jY rfl ?_ | refine jK ?_ | refine jD ?_ | refine jE ?_)
  refine WpC.loop (α := Nat) (fun x => ⟨[(0, .v (.slice ad us.length cap)), (3, .v (.int .i64 (x : Int)))], [], w⟩)
    (fun x => x ≤ us.length ∧ ∀ j : Nat, j < x → uAt us j = true) (fun x => us.length - x) 0 ⟨Nat.zero_le _, fun j hj => absurd hj (by omega)⟩ ⟨⟨rfl, rfl, trivial⟩, trivial, trivial, Ext.refl _⟩ ?_
  rintro k ⟨hk, hn⟩
  repeat (first | refine jC ?_ | refine jN ?_ | refine jS ?_ | refine jR ?_ | refine jT ?_ | refine jB ?_ | refine jX rfl ?_ | refine jY rfl ?_ | refine jK ?_ | refine jD ?_ | refine jE ?_)
  refine Br.intro (fun h => ?_) (fun h => ?_)
  · have hlt : k < us.length := by have := of_decide_eq_true h; omega
    obtain ⟨b, o, rfl, hb, hc⟩ := hat (by omega)
    have hu : us[k]? = some us[k] := List.getElem?_eq_getElem hlt
    have hw := hwf _ (List.getElem_mem hlt)
    have hbad : uAt us k = false → usersOk us = false := fun e => usersOk_bad hlt e
    have hstep : uAt us k = true → ∀ j : Nat, j < k + 1 → uAt us j = true := fun e j hj => by
      rcases Nat.lt_or_ge j k with hjk | hjk
      · exact hn j hjk
      · have : j = k := by omega
        subst this; exact e
    generalize us[k] = u at hu hw
    repeat (first | refine jC ?_ | refine jN ?_ | refine jS ?_ | refine jR ?_ | refine jT ?_ | refine jB ?_ | refine jX rfl ?_ | refine jY rfl ?_ | refine jK ?_ | refine jD ?_ | refine jE ?_)
    refine WpC.draw (by kernel_rfl) ?_
    repeat (first | refine jC ?_ | refine jN ?_ | refine jS ?_ | refine jR ?_ | refine jT ?_ | refine jB ?_ | refine jX rfl ?_ | refine jY rfl ?_ | refine jK ?_ | refine jD ?_ | refine jE ?_)
    refine Ix.mk k rfl hlt ?_
    repeat (first | refine jC ?_ | refine jN ?_ | refine jS ?_ | refine jR ?_ | refine jT ?_ | refine jB ?_ | refine jX rfl ?_ | refine jY rfl ?_ | refine jK ?_ | refine jD ?_ | refine jE ?_)
    refine Ld.mk ((hc k _ hu).out 0 _ rfl) ?_
    repeat (first | refine jC ?_ | refine jN ?_ | refine jS ?_ | refine jR ?_ | refine jT ?_ | refine jB ?_ | refine jX rfl ?_ | refine jY rfl ?_ | refine jK ?_ | refine jD ?_ | refine jE ?_)
    refine QCallV.val (fun w' _ _ => (sNameValid_any u.name w' (by have := hw.1; unfold maxLen; omega)).of_same) ?_
    repeat (first | refine jC ?_ | refine jN ?_ | refine jS ?_ | refine jR ?_ | refine jT ?_ | refine jB ?_ | refine jX rfl ?_ | refine jY rfl ?_ | refine jK ?_ | refine jD ?_ | refine jE ?_)
    refine Br.intro (fun h1 => ?_) (fun h1 => ?_)
    · repeat (first | refine jC ?_ | refine jN ?_ | refine jS ?_ | refine jR ?_ | refine jT ?_ | refine jB ?_ | refine jX rfl ?_ | refine jY rfl ?_ | refine jK ?_ | refine jD ?_ | refine jE ?_)
      exact EndV.val (by rw [hbad (uAt_name hu (by simpa using h1))]) (Ext.refl _)
    repeat (first | refine jC ?_ | refine jN ?_ | refine jS ?_ | refine jR ?_ | refine jT ?_ | refine jB ?_ | refine jX rfl ?_ | refine jY rfl ?_ | refine jK ?_ | refine jD ?_ | refine jE ?_)
    refine Ix.mk k rfl hlt ?_
    repeat (first | refine jC ?_ | refine jN ?_ | refine jS ?_ | refine jR ?_ | refine jT ?_ | refine jB ?_ | refine jX rfl ?_ | refine jY rfl ?_ | refine jK ?_ | refine jD ?_ | refine jE ?_)
    refine Ld.mk ((hc k _ hu).out 1 _ rfl) ?_
    repeat (first | refine jC ?_ | refine jN ?_ | refine jS ?_ | refine jR ?_ | refine jT ?_ | refine jB ?_ | refine jX rfl ?_ | refine jY rfl ?_ | refine jK ?_ | refine jD ?_ | refine jE ?_)
    refine QCallV.val (fun w' _ _ => (l1In_any u.num 0 99 w').of_same) ?_
    repeat (first | refine jC ?_ | refine jN ?_ | refine jS ?_ | refine jR ?_ | refine jT ?_ | refine jB ?_ | refine jX rfl ?_ | refine jY rfl ?_ | refine jK ?_ | refine jD ?_ | refine jE ?_)
    refine Br.intro (fun h3 => ?_) (fun h3 => ?_)
    · repeat (first | refine jC ?_ | refine jN ?_ | refine jS ?_ | refine jR ?_ | refine jT ?_ | refine jB ?_ | refine jX rfl ?_ | refine jY rfl ?_ | refine jK ?_ | refine jD ?_ | refine jE ?_)
      exact EndV.val (by rw [hbad (uAt_num hu (by simpa using h3))]) (Ext.refl _)
    repeat (first | refine jC ?_ | refine jN ?_ | refine jS ?_ | refine jR ?_ | refine jT ?_ | refine jB ?_ | refine jX rfl ?_ | refine jY rfl ?_ | refine jK ?_ | refine jD ?_ | refine jE ?_)
    refine Ix.mk k rfl hlt ?_
    repeat (first | refine jC ?_ | refine jN ?_ | refine jS ?_ | refine jR ?_ | refine jT ?_ | refine jB ?_ | refine jX rfl ?_ | refine jY rfl ?_ | refine jK ?_ | refine jD ?_ | refine jE ?_)
    refine Ld.mk ((hc k _ hu).out 2 _ rfl) ?_
    repeat (first | refine jC ?_ | refine jN ?_ | refine jS ?_ | refine jR ?_ | refine jT ?_ | refine jB ?_ | refine jX rfl ?_ | refine jY rfl ?_ | refine jK ?_ | refine jD ?_ | refine jE ?_)
    refine QCallV.val (fun w' _ _ => (l1In_any u.grp 0 255 w').of_same) ?_
    repeat (first | refine jC ?_ | refine jN ?_ | refine jS ?_ | refine jR ?_ | refine jT ?_ | refine jB ?_ | refine jX rfl ?_ | refine jY rfl ?_ | refine jK ?_ | refine jD ?_ | refine jE ?_)
    refine Br.intro (fun h4 => ?_) (fun h4 => ?_)
    · repeat (first | refine jC ?_ | refine jN ?_ | refine jS ?_ | refine jR ?_ | refine jT ?_ | refine jB ?_ | refine jX rfl ?_ | refine jY rfl ?_ | refine jK ?_ | refine jD ?_ | refine jE ?_)
      exact EndV.val (by rw [hbad (uAt_grp hu (by simpa using h4))]) (Ext.refl _)
    repeat (first | refine jC ?_ | refine jN ?_ | refine jS ?_ | refine jR ?_ | refine jT ?_ | refine jB ?_ | refine jX rfl ?_ | refine jY rfl ?_ | refine jK ?_ | refine jD ?_ | refine jE ?_)
    have hall := fun h2 h5 => hstep (uAt_ok hu (by simpa using h1) (by simpa using h3) (by simpa using h4) h2 h5)
    refine Br.intro (fun h5 => ?_) (fun h5 => ?_)
    · have hk0 : 0 < k := by have := of_decide_eq_true h5; omega
      have hp : us[k - 1]? = some us[k - 1] := List.getElem?_eq_getElem (by omega)
      repeat (first | refine jC ?_ | refine jN ?_ | refine jS ?_ | refine jR ?_ | refine jT ?_ | refine jB ?_ | refine jX rfl ?_ | refine jY rfl ?_ | refine jK ?_ | refine jD ?_ | refine jE ?_)
      refine Ix.mk k rfl hlt ?_
      repeat (first | refine jC ?_ | refine jN ?_ | refine jS ?_ | refine jR ?_ | refine jT ?_ | refine jB ?_ | refine jX rfl ?_ | refine jY rfl ?_ | refine jK ?_ | refine jD ?_ | refine jE ?_)
      refine Ld.mk ((hc k _ hu).out 1 _ rfl) ?_
      repeat (first | refine jC ?_ | refine jN ?_ | refine jS ?_ | refine jR ?_ | refine jT ?_ | refine jB ?_ | refine jX rfl ?_ | refine jY rfl ?_ | refine jK ?_ | refine jD ?_ | refine jE ?_)
      refine ⟨I64.mk (by omega), ?_⟩
      repeat (first | refine jC ?_ | refine jN ?_ | refine jS ?_ | refine jR ?_ | refine jT ?_ | refine jB ?_ | refine jX rfl ?_ | refine jY rfl ?_ | refine jK ?_ | refine jD ?_ | refine jE ?_)
      refine Ix.mk (k - 1) (by omega) (by omega) ?_
      repeat (first | refine jC ?_ | refine jN ?_ | refine jS ?_ | refine jR ?_ | refine jT ?_ | refine jB ?_ | refine jX rfl ?_ | refine jY rfl ?_ | refine jK ?_ | refine jD ?_ | refine jE ?_)
      refine Ld.mk ((hc (k - 1) _ hp).out 1 _ rfl) ?_
      repeat (first | refine jC ?_ | refine jN ?_ | refine jS ?_ | refine jR ?_ | refine jT ?_ | refine jB ?_ | refine jX rfl ?_ | refine jY rfl ?_ | refine jK ?_ | refine jD ?_ | refine jE ?_)
      refine Br.intro (fun h6 => ?_) (fun h6 => ?_)
      · repeat (first | refine jC ?_ | refine jN ?_ | refine jS ?_ | refine jR ?_ | refine jT ?_ | refine jB ?_ | refine jX rfl ?_ | refine jY rfl ?_ | refine jK ?_ | refine jD ?_ | refine jE ?_)
        exact EndV.val (by rw [hbad (uAt_ord hu hk0 hp (of_decide_eq_true h6))]) (Ext.refl _)
      have hord : ∀ p, 0 < k → us[k - 1]? = some p → p.num < u.num := fun p _ hp' => by rw [hp] at hp'; cases hp'; have := of_decide_eq_false h6; omega
      repeat (first | refine jC ?_ | refine jN ?_ | refine jS ?_ | refine jR ?_ | refine jT ?_ | refine jB ?_ | refine jX rfl ?_ | refine jY rfl ?_ | refine jK ?_ | refine jD ?_ | refine jE ?_)
      refine WpC.loop (α := Nat) (fun x => ⟨[(0, .v (.slice (some ⟨b, o, none⟩) us.length cap)), (3, .v (.int .i64 (k : Int))), (4, .v (.int .i64 (x : Int)))], [], w⟩)
        (fun x => x ≤ k ∧ ∀ (j : Nat) (y : Us), j < x → us[j]? = some y → same y.name u.name = false) (fun x => k - x) 0 ⟨Nat.zero_le _, fun j y hj => absurd hj (by omega)⟩ ⟨⟨rfl, rfl, rfl, trivial⟩, trivial, trivial, Ext.refl _⟩ ?_
      rintro i ⟨hi, hne⟩
      repeat (first | refine jC ?_ | refine jN ?_ | refine jS ?_ | refine jR ?_ | refine jT ?_ | refine jB ?_ | refine jX rfl ?_ | refine jY rfl ?_ | refine jK ?_ | refine jD ?_ | refine jE ?_)
      refine Br.intro (fun h7 => ?_) (fun h7 => ?_)
      · have hlt' : i < k := by have := of_decide_eq_true h7; omega
        have hv : us[i]? = some us[i] := List.getElem?_eq_getElem (by omega)
        generalize us[i] = y at hv
        repeat (first | refine jC ?_ | refine jN ?_ | refine jS ?_ | refine jR ?_ | refine jT ?_ | refine jB ?_ | refine jX rfl ?_ | refine jY rfl ?_ | refine jK ?_ | refine jD ?_ | refine jE ?_)
        refine WpC.draw (by kernel_rfl) ?_
        repeat (first | refine jC ?_ | refine jN ?_ | refine jS ?_ | refine jR ?_ | refine jT ?_ | refine jB ?_ | refine jX rfl ?_ | refine jY rfl ?_ | refine jK ?_ | refine jD ?_ | refine jE ?_)
        refine Ix.mk i rfl (by omega) ?_
        repeat (first | refine jC ?_ | refine jN ?_ | refine jS ?_ | refine jR ?_ | refine jT ?_ | refine jB ?_ | refine jX rfl ?_ | refine jY rfl ?_ | refine jK ?_ | refine jD ?_ | refine jE ?_)
        refine Ld.mk ((hc i _ hv).out 0 _ rfl) ?_
        repeat (first | refine jC ?_ | refine jN ?_ | refine jS ?_ | refine jR ?_ | refine jT ?_ | refine jB ?_ | refine jX rfl ?_ | refine jY rfl ?_ | refine jK ?_ | refine jD ?_ | refine jE ?_)
        refine Ix.mk k rfl hlt ?_
        repeat (first | refine jC ?_ | refine jN ?_ | refine jS ?_ | refine jR ?_ | refine jT ?_ | refine jB ?_ | refine jX rfl ?_ | refine jY rfl ?_ | refine jK ?_ | refine jD ?_ | refine jE ?_)
        refine Ld.mk ((hc k _ hu).out 0 _ rfl) ?_
        repeat (first | refine jC ?_ | refine jN ?_ | refine jS ?_ | refine jR ?_ | refine jT ?_ | refine jB ?_ | refine jX rfl ?_ | refine jY rfl ?_ | refine jK ?_ | refine jD ?_ | refine jE ?_)
        refine Br.intro (fun h8 => ?_) (fun h8 => ?_)
        · repeat (first | refine jC ?_ | refine jN ?_ | refine jS ?_ | refine jR ?_ | refine jT ?_ | refine jB ?_ | refine jX rfl ?_ | refine jY rfl ?_ | refine jK ?_ | refine jD ?_ | refine jE ?_)
          exact EndV.val (by rw [hbad (uAt_plc hu (plc_ge (us := us) hlt' hv h8))]) (Ext.refl _)
        · repeat (first | refine jC ?_ | refine jN ?_ | refine jS ?_ | refine jR ?_ | refine jT ?_ | refine jB ?_ | refine jX rfl ?_ | refine jY rfl ?_ | refine jK ?_ | refine jD ?_ | refine jE ?_)
          refine ⟨I64.mk (by omega), ?_⟩
          repeat (first | refine jC ?_ | refine jN ?_ | refine jS ?_ | refine jR ?_ | refine jT ?_ | refine jB ?_ | refine jX rfl ?_ | refine jY rfl ?_ | refine jK ?_ | refine jD ?_ | refine jE ?_)
          refine ⟨i + 1, ⟨hlt', fun j z hj hz => ?_⟩, by show k - (i + 1) < k - i; omega, ⟨rfl, rfl, rfl, trivial⟩, trivial, trivial, Ext.refl _⟩
          rcases Nat.lt_or_ge j i with hji | hji
          · exact hne j z hji hz
          · have : j = i := by omega
            subst this
            rw [hv] at hz
            cases hz
            exact h8
      · have hie : i = k := by have := of_decide_eq_false h7; omega
        subst hie
        repeat (first | refine jC ?_ | refine jN ?_ | refine jS ?_ | refine jR ?_ | refine jT ?_ | refine jB ?_ | refine jX rfl ?_ | refine jY rfl ?_ | refine jK ?_ | refine jD ?_ | refine jE ?_)
        refine ⟨I64.mk (by omega), ?_⟩
        repeat (first | refine jC ?_ | refine jN ?_ | refine jS ?_ | refine jR ?_ | refine jT ?_ | refine jB ?_ | refine jX rfl ?_ | refine jY rfl ?_ | refine jK ?_ | refine jD ?_ | refine jE ?_)
        refine ⟨i + 1, ⟨hlt, hall ?_ hord⟩, by show us.length - (i + 1) < us.length - i; omega, ⟨rfl, rfl, trivial⟩, trivial, trivial, Ext.refl _⟩
        rw [plc_none fun j z hj hz => hne j z (by simp at hj; omega) (by rw [List.getElem?_take] at hz; split at hz; exact hz; cases hz)]
        omega
    · have hk0 : k = 0 := by have := of_decide_eq_false h5; omega
      have hord : ∀ p, 0 < k → us[k - 1]? = some p → p.num < u.num := fun p h0 _ => by omega
      repeat (first | refine jC ?_ | refine jN ?_ | refine jS ?_ | refine jR ?_ | refine jT ?_ | refine jB ?_ | refine jX rfl ?_ | refine jY rfl ?_ | refine jK ?_ | refine jD ?_ | refine jE ?_)
      refine WpC.loop (α := Nat) (fun x => ⟨[(0, .v (.slice (some ⟨b, o, none⟩) us.length cap)), (3, .v (.int .i64 (k : Int))), (4, .v (.int .i64 (x : Int)))], [], w⟩)
        (fun x => x ≤ k ∧ ∀ (j : Nat) (y : Us), j < x → us[j]? = some y → same y.name u.name = false) (fun x => k - x) 0 ⟨Nat.zero_le _, fun j y hj => absurd hj (by omega)⟩ ⟨⟨rfl, rfl, rfl, trivial⟩, trivial, trivial, Ext.refl _⟩ ?_
      rintro i ⟨hi, hne⟩
      repeat (first | refine jC ?_ | refine jN ?_ | refine jS ?_ | refine jR ?_ | refine jT ?_ | refine jB ?_ | refine jX rfl ?_ | refine jY rfl ?_ | refine jK ?_ | refine jD ?_ | refine jE ?_)
      refine Br.intro (fun h7 => ?_) (fun h7 => ?_)
      · have hlt' : i < k := by have := of_decide_eq_true h7; omega
        have hv : us[i]? = some us[i] := List.getElem?_eq_getElem (by omega)
        generalize us[i] = y at hv
        repeat (first | refine jC ?_ | refine jN ?_ | refine jS ?_ | refine jR ?_ | refine jT ?_ | refine jB ?_ | refine jX rfl ?_ | refine jY rfl ?_ | refine jK ?_ | refine jD ?_ | refine jE ?_)
        refine WpC.draw (by kernel_rfl) ?_
        repeat (first | refine jC ?_ | refine jN ?_ | refine jS ?_ | refine jR ?_ | refine jT ?_ | refine jB ?_ | refine jX rfl ?_ | refine jY rfl ?_ | refine jK ?_ | refine jD ?_ | refine jE ?_)
        refine Ix.mk i rfl (by omega) ?_
        repeat (first | refine jC ?_ | refine jN ?_ | refine jS ?_ | refine jR ?_ | refine jT ?_ | refine jB ?_ | refine jX rfl ?_ | refine jY rfl ?_ | refine jK ?_ | refine jD ?_ | refine jE ?_)
        refine Ld.mk ((hc i _ hv).out 0 _ rfl) ?_
        repeat (first | refine jC ?_ | refine jN ?_ | refine jS ?_ | refine jR ?_ | refine jT ?_ | refine jB ?_ | refine jX rfl ?_ | refine jY rfl ?_ | refine jK ?_ | refine jD ?_ | refine jE ?_)
        refine Ix.mk k rfl hlt ?_
        repeat (first | refine jC ?_ | refine jN ?_ | refine jS ?_ | refine jR ?_ | refine jT ?_ | refine jB ?_ | refine jX rfl ?_ | refine jY rfl ?_ | refine jK ?_ | refine jD ?_ | refine jE ?_)
        refine Ld.mk ((hc k _ hu).out 0 _ rfl) ?_
        repeat (first | refine jC ?_ | refine jN ?_ | refine jS ?_ | refine jR ?_ | refine jT ?_ | refine jB ?_ | refine jX rfl ?_ | refine jY rfl ?_ | refine jK ?_ | refine jD ?_ | refine jE ?_)
        refine Br.intro (fun h8 => ?_) (fun h8 => ?_)
        · repeat (first | refine jC ?_ | refine jN ?_ | refine jS ?_ | refine jR ?_ | refine jT ?_ | refine jB ?_ | refine jX rfl ?_ | refine jY rfl ?_ | refine jK ?_ | refine jD ?_ | refine jE ?_)
          exact EndV.val (by rw [hbad (uAt_plc hu (plc_ge (us := us) hlt' hv h8))]) (Ext.refl _)
        · repeat (first | refine jC ?_ | refine jN ?_ | refine jS ?_ | refine jR ?_ | refine jT ?_ | refine jB ?_ | refine jX rfl ?_ | refine jY rfl ?_ | refine jK ?_ | refine jD ?_ | refine jE ?_)
          refine ⟨I64.mk (by omega), ?_⟩
          repeat (first | refine jC ?_ | refine jN ?_ | refine jS ?_ | refine jR ?_ | refine jT ?_ | refine jB ?_ | refine jX rfl ?_ | refine jY rfl ?_ | refine jK ?_ | refine jD ?_ | refine jE ?_)
          refine ⟨i + 1, ⟨hlt', fun j z hj hz => ?_⟩, by show k - (i + 1) < k - i; omega, ⟨rfl, rfl, rfl, trivial⟩, trivial, trivial, Ext.refl _⟩
          rcases Nat.lt_or_ge j i with hji | hji
          · exact hne j z hji hz
          · have : j = i := by omega
            subst this
            rw [hv] at hz
            cases hz
            exact h8
      · have hie : i = k := by have := of_decide_eq_false h7; omega
        subst hie
        repeat (first | refine jC ?_ | refine jN ?_ | refine jS ?_ | refine jR ?_ | refine jT ?_ | refine jB ?_ | refine jX rfl ?_ | refine jY rfl ?_ | refine jK ?_ | refine jD ?_ | refine jE ?_)
        refine ⟨I64.mk (by omega), ?_⟩
        repeat (first | refine jC ?_ | refine jN ?_ | refine jS ?_ | refine jR ?_ | refine jT ?_ | refine jB ?_ | refine jX rfl ?_ | refine jY rfl ?_ | refine jK ?_ | refine jD ?_ | refine jE ?_)
        refine ⟨i + 1, ⟨hlt, hall ?_ hord⟩, by show us.length - (i + 1) < us.length - i; omega, ⟨rfl, rfl, trivial⟩, trivial, trivial, Ext.refl _⟩
        rw [plc_none fun j z hj hz => hne j z (by simp at hj; omega) (by rw [List.getElem?_take] at hz; split at hz; exact hz; cases hz)]
        omega
  · have hke : k = us.length := by have := of_decide_eq_false h; omega
    subst hke
    repeat (first | refine jC ?_ | refine jN ?_ | refine jS ?_ | refine jR ?_ | refine jT ?_ | refine jB ?_ | refine jX rfl ?_ | refine jY rfl ?_ | refine jK ?_ | refine jD ?_ | refine jE ?_)
    exact EndV.val (by rw [usersOk_end hn]; congr 1; exact decide_eq_decide.2 (by omega)) (Ext.refl _)
end Go.Proofs.Ytifnjinkddelmaa
