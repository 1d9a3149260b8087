/-
  A sum has exactly the groups whose powers of two make it.
  Conditions: none.
-/
import Derived.Test.YtbiaamipfhgfeaaDraws
import Derived.Test.YtbiaamipfhgfeaaAlive
import Derived.Test.YtbiaamipfhgfeaaGroupP
namespace Go.Proofs.Ytbiaamipfhgfeaa.fnHasGroup
open Go.ChangeShapes Go.WideShapes Go.ChangeAt Go.RowKit
open Go.ChangeMaps (open_string)
set_option linter.unusedVariables false
set_option maxHeartbeats 4000000 in
theorem walk (v0 : Value) (w : World) (w0 : CodeAt w v0) :
    Calls Try.prog 3 #[v0] w fun e w' => e = .returned (.bool true) ∧ Below w.heap.size w w' := by
  obtain ⟨ad, len, cap, bs, rfl, hlc, hcm, hbl, hbd, hcell⟩ := w0
  have h0 : CodeAt w (.slice ad len cap) := ⟨ad, len, cap, bs, rfl, hlc, hcm, hbl, hbd, hcell⟩
  unfold maxLen at hcm
  clear hbl hbd hcell
  by_cases hbig : 1048576 < len
  · clear h0
    go_enter Try.func3, Try.ntmps3
    go_wp2
    go_ret
    exact ⟨rfl, Below.refl _ _⟩
  · go_enter Try.func3, Try.ntmps3
    go_wp2_with fail
    refine (dHasGroup_any _ _ h0).mono ?_; rintro e wA ⟨x, y, rfl, hx, hy, hA⟩
    go_wp2_with fail
    refine (iHasGroup_any _ _ _).mono ?_; rintro e w' ⟨rfl, rfl⟩
    go_wp2_with fail
    refine (sHasGroup_any _ _ _).mono ?_; rintro e w' ⟨rfl, rfl⟩
    have HA := Lib.hid hA
    clear hA h0
    have hok : hasG x y = true → 0 ≤ y ∧ y ≤ 7 := by
      intro h; simp only [hasG, Bool.and_eq_true, inR_iff] at h; omega
    go_wp2_with fail
    go_loop [6, 7] (fun s k => ∃ n : Nat, ∃ t : Int, n ≤ 8 ∧ k = .int .i64 n ∧ s = .int .i64 t ∧ 0 ≤ t ∧ t ≤ 1000 ∧ t = gsum x n) (fun _ k => (8 - intOf k).toNat)
    case atStart => exact ⟨0, 0, by omega, rfl, rfl, by omega, by omega, rfl⟩
    case round =>
      obtain ⟨n, t, hn, rfl, rfl, t0, t1, ht⟩ := hrel
      have Ht := Lib.hid ht
      clear ht
      have hcs : n = 0 ∨ n = 1 ∨ n = 2 ∨ n = 3 ∨ n = 4 ∨ n = 5 ∨ n = 6 ∨ n = 7 ∨ n = 8 := by omega
      rcases hcs with rfl | rfl | rfl | rfl | rfl | rfl | rfl | rfl | rfl
      · have hs := gsum_le x (0 + 1) (by omega)
        cases hg : hasG x 0
        · go_wp2_with fail
          refine (iHasGroup_any _ _ _).mono ?_; rintro e w' ⟨rfl, rfl⟩
          rw [hg]
          go_wp2
          go_round
          case rel => exact ⟨1, t, by omega, rfl, rfl, by omega, by omega, gsum_no (k := 0) Ht.out hg⟩
          case measure => simp [intOf]
        · have hsm := gsum_yes (k := 0) (v := 1) Ht.out hg (by decide)
          have hb : t + 1 ≤ 1000 := by rw [hsm]; omega
          have Hs := Lib.hid hsm
          clear hsm
          go_wp2_with fail
          refine (iHasGroup_any _ _ _).mono ?_; rintro e w' ⟨rfl, rfl⟩
          rw [hg]
          go_wp2
          go_round
          case rel => exact ⟨1, t + 1, by omega, rfl, rfl, by omega, by omega, Hs.out⟩
          case measure => simp [intOf]
      · have hs := gsum_le x (1 + 1) (by omega)
        cases hg : hasG x 1
        · go_wp2_with fail
          refine (iHasGroup_any _ _ _).mono ?_; rintro e w' ⟨rfl, rfl⟩
          rw [hg]
          go_wp2
          go_round
          case rel => exact ⟨2, t, by omega, rfl, rfl, by omega, by omega, gsum_no (k := 1) Ht.out hg⟩
          case measure => simp [intOf]
        · have hsm := gsum_yes (k := 1) (v := 2) Ht.out hg (by decide)
          have hb : t + 2 ≤ 1000 := by rw [hsm]; omega
          have Hs := Lib.hid hsm
          clear hsm
          go_wp2_with fail
          refine (iHasGroup_any _ _ _).mono ?_; rintro e w' ⟨rfl, rfl⟩
          rw [hg]
          go_wp2
          go_round
          case rel => exact ⟨2, t + 2, by omega, rfl, rfl, by omega, by omega, Hs.out⟩
          case measure => simp [intOf]
      · have hs := gsum_le x (2 + 1) (by omega)
        cases hg : hasG x 2
        · go_wp2_with fail
          refine (iHasGroup_any _ _ _).mono ?_; rintro e w' ⟨rfl, rfl⟩
          rw [hg]
          go_wp2
          go_round
          case rel => exact ⟨3, t, by omega, rfl, rfl, by omega, by omega, gsum_no (k := 2) Ht.out hg⟩
          case measure => simp [intOf]
        · have hsm := gsum_yes (k := 2) (v := 4) Ht.out hg (by decide)
          have hb : t + 4 ≤ 1000 := by rw [hsm]; omega
          have Hs := Lib.hid hsm
          clear hsm
          go_wp2_with fail
          refine (iHasGroup_any _ _ _).mono ?_; rintro e w' ⟨rfl, rfl⟩
          rw [hg]
          go_wp2
          go_round
          case rel => exact ⟨3, t + 4, by omega, rfl, rfl, by omega, by omega, Hs.out⟩
          case measure => simp [intOf]
      · have hs := gsum_le x (3 + 1) (by omega)
        cases hg : hasG x 3
        · go_wp2_with fail
          refine (iHasGroup_any _ _ _).mono ?_; rintro e w' ⟨rfl, rfl⟩
          rw [hg]
          go_wp2
          go_round
          case rel => exact ⟨4, t, by omega, rfl, rfl, by omega, by omega, gsum_no (k := 3) Ht.out hg⟩
          case measure => simp [intOf]
        · have hsm := gsum_yes (k := 3) (v := 8) Ht.out hg (by decide)
          have hb : t + 8 ≤ 1000 := by rw [hsm]; omega
          have Hs := Lib.hid hsm
          clear hsm
          go_wp2_with fail
          refine (iHasGroup_any _ _ _).mono ?_; rintro e w' ⟨rfl, rfl⟩
          rw [hg]
          go_wp2
          go_round
          case rel => exact ⟨4, t + 8, by omega, rfl, rfl, by omega, by omega, Hs.out⟩
          case measure => simp [intOf]
      · have hs := gsum_le x (4 + 1) (by omega)
        cases hg : hasG x 4
        · go_wp2_with fail
          refine (iHasGroup_any _ _ _).mono ?_; rintro e w' ⟨rfl, rfl⟩
          rw [hg]
          go_wp2
          go_round
          case rel => exact ⟨5, t, by omega, rfl, rfl, by omega, by omega, gsum_no (k := 4) Ht.out hg⟩
          case measure => simp [intOf]
        · have hsm := gsum_yes (k := 4) (v := 16) Ht.out hg (by decide)
          have hb : t + 16 ≤ 1000 := by rw [hsm]; omega
          have Hs := Lib.hid hsm
          clear hsm
          go_wp2_with fail
          refine (iHasGroup_any _ _ _).mono ?_; rintro e w' ⟨rfl, rfl⟩
          rw [hg]
          go_wp2
          go_round
          case rel => exact ⟨5, t + 16, by omega, rfl, rfl, by omega, by omega, Hs.out⟩
          case measure => simp [intOf]
      · have hs := gsum_le x (5 + 1) (by omega)
        cases hg : hasG x 5
        · go_wp2_with fail
          refine (iHasGroup_any _ _ _).mono ?_; rintro e w' ⟨rfl, rfl⟩
          rw [hg]
          go_wp2
          go_round
          case rel => exact ⟨6, t, by omega, rfl, rfl, by omega, by omega, gsum_no (k := 5) Ht.out hg⟩
          case measure => simp [intOf]
        · have hsm := gsum_yes (k := 5) (v := 32) Ht.out hg (by decide)
          have hb : t + 32 ≤ 1000 := by rw [hsm]; omega
          have Hs := Lib.hid hsm
          clear hsm
          go_wp2_with fail
          refine (iHasGroup_any _ _ _).mono ?_; rintro e w' ⟨rfl, rfl⟩
          rw [hg]
          go_wp2
          go_round
          case rel => exact ⟨6, t + 32, by omega, rfl, rfl, by omega, by omega, Hs.out⟩
          case measure => simp [intOf]
      · have hs := gsum_le x (6 + 1) (by omega)
        cases hg : hasG x 6
        · go_wp2_with fail
          refine (iHasGroup_any _ _ _).mono ?_; rintro e w' ⟨rfl, rfl⟩
          rw [hg]
          go_wp2
          go_round
          case rel => exact ⟨7, t, by omega, rfl, rfl, by omega, by omega, gsum_no (k := 6) Ht.out hg⟩
          case measure => simp [intOf]
        · have hsm := gsum_yes (k := 6) (v := 64) Ht.out hg (by decide)
          have hb : t + 64 ≤ 1000 := by rw [hsm]; omega
          have Hs := Lib.hid hsm
          clear hsm
          go_wp2_with fail
          refine (iHasGroup_any _ _ _).mono ?_; rintro e w' ⟨rfl, rfl⟩
          rw [hg]
          go_wp2
          go_round
          case rel => exact ⟨7, t + 64, by omega, rfl, rfl, by omega, by omega, Hs.out⟩
          case measure => simp [intOf]
      · have hs := gsum_le x (7 + 1) (by omega)
        cases hg : hasG x 7
        · go_wp2_with fail
          refine (iHasGroup_any _ _ _).mono ?_; rintro e w' ⟨rfl, rfl⟩
          rw [hg]
          go_wp2
          go_round
          case rel => exact ⟨8, t, by omega, rfl, rfl, by omega, by omega, gsum_no (k := 7) Ht.out hg⟩
          case measure => simp [intOf]
        · have hsm := gsum_yes (k := 7) (v := 128) Ht.out hg (by decide)
          have hb : t + 128 ≤ 1000 := by rw [hsm]; omega
          have Hs := Lib.hid hsm
          clear hsm
          go_wp2_with fail
          refine (iHasGroup_any _ _ _).mono ?_; rintro e w' ⟨rfl, rfl⟩
          rw [hg]
          go_wp2
          go_round
          case rel => exact ⟨8, t + 128, by omega, rfl, rfl, by omega, by omega, Hs.out⟩
          case measure => simp [intOf]
      · by_cases hin : 0 ≤ x ∧ x ≤ 255
        · have hxs : (t == x) = true := by rw [Ht.out, gsum_all hin.1 hin.2]; simp
          obtain ⟨i1, i2⟩ := hin
          cases hy' : hasG x y
          · clear hok
            go_wp2_with (go_at_call 18; refine (alive_any _).mono ?_; rintro e w' ⟨rfl, rfl⟩)
            go_ret
            exact ⟨rfl, HA.out⟩
          · obtain ⟨y1, y2⟩ := hok hy'
            clear hok
            go_wp2_with (go_at_call 18; refine (alive_any _).mono ?_; rintro e w' ⟨rfl, rfl⟩)
            go_ret
            exact ⟨rfl, HA.out⟩
        · have hy' : hasG x y = false := by
            have : inR x 0 255 = false := inR_not.2 (by omega)
            simp [hasG, this]
          clear hok
          by_cases hx0 : x < 0
          · go_wp2_with (go_at_call 18; refine (alive_any _).mono ?_; rintro e w' ⟨rfl, rfl⟩)
            go_ret
            exact ⟨rfl, HA.out⟩
          · have hx255 : 255 < x := by omega
            go_wp2_with (go_at_call 18; refine (alive_any _).mono ?_; rintro e w' ⟨rfl, rfl⟩)
            go_ret
            exact ⟨rfl, HA.out⟩

set_option maxRecDepth 100000 in
theorem lifted (os : Os) (started : os.Started) (H : Type) (enc : TypeId × Value → H) :
    ReturnsInHanded {} Try.checked os 3 .any (Rows.fnHasGroupSpec.pre6 enc Try.prog Try.f3 Rows.fnHasGroupRow.domain false) (Rows.fnHasGroupSpec.post enc Try.prog Try.f3 false true false false) := by
  refine returnsInHanded_of_change (C := Try.checked) own started (by kernel_rfl) Try.func3
    (ChangeSpec.witness6 (enc := enc) (C := Try.checked) false ⟨#[], #[.slice none 0 0], []⟩ 8 (by kernel_rfl) (by kernel_rfl) (by kernel_rfl) (by kernel_rfl)) ?_
  intro W base args ds gs before hval0 hW hcnd _
  have hval : ∀ (j : Nat) t v, Try.f3.params[j]? = some t → args[j]? = some v → Value.okWide Try.prog W .any base t v := hval0
  have hW' := hW
  have hltb : ∀ x ∈ before, x.block < W.heap.size := fun x hx => hW.lt x hx
  obtain ⟨p, q, hA0, hV, rfl, hfz, hnd⟩ := hW
  have hA : DataW.TrodAll enc Try.prog W 0 (fun _ => true) true Try.f3.params.toList args.toList ds p := hA0
  have hlt : ∀ x ∈ p, x.block < W.heap.size := fun x hx => hltb x (List.mem_append_left _ hx)
  have hAll := hA
  rw [Try.params3] at hA hval
  obtain ⟨v0, vs0, d0, ds0, p0, q0, hargs, rfl, rfl, h0, r0⟩ := trodAll_cons hA
  obtain ⟨rfl, rfl, rfl⟩ := trodAll_nil r0
  obtain rfl : args = #[v0] := by cases args; simp_all
  obtain ⟨rfl, rfl⟩ := trodVars_none hV
  clear hA0 hval0
  have hlt0 : ∀ x ∈ p0, x.block < W.heap.size := fun x hx => hlt x (by simp [hx])
  have w0 := open_bytes (hval 0 22 v0 rfl rfl) h0 hlt0
  simp only [List.append_nil] at hW' hltb hAll
  refine (walk v0 W w0).mono fun e W' ⟨he, hg⟩ => ?_
  subst he
  exact ⟨_, rfl, post_of_below (pa := _) (pv := []) hW' (fun _ _ _ => (trodAll_cons_mk (shut_bool Try.underlying4 _) trodAll_mk0))
    (fun sp hsp => trodAll_stays laidOut hg (by kernel_rfl) hAll hltb sp hsp) (fun _ _ => rfl) (by simp) hg (ok_one (by kernel_rfl) rfl (okWide_bool_mk Try.underlying4 _))⟩

theorem over : Rows.fnHasGroupRow.holds Try.pinned (OpenSpec.ofChange Rows.fnHasGroupSpec) :=
  OpenClaim.holds_of_wide 3 Try.f3 rfl rfl rfl rfl rfl rfl rfl ⟨rfl, rfl, rfl, rfl, rfl⟩ rfl rfl rfl rfl rfl (by kernel_rfl) Try.func3 (by kernel_rfl)
    (of_decide_eq_true (by kernel_rfl)) (by unfold Func.isWrapper; first | (rw [if_pos (by decide +kernel)]; kernel_rfl) | (rw [if_neg (by decide +kernel)]; exact ⟨rfl, rfl⟩))
    (fun os started H enc _ => lifted os started H enc)

/-- The statement. -/
theorem proved : Rows.FnHasGroupSaid :=
  over
#print axioms proved
end Go.Proofs.Ytbiaamipfhgfeaa.fnHasGroup
