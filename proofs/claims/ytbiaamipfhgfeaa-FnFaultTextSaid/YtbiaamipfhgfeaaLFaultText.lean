/-
  The texts of the faults differ from each other; and are those of the reference.
  Conditions: none.
-/
import Derived.Test.YtbiaamipfhgfeaaDraws
import Derived.Test.YtbiaamipfhgfeaaAlive
namespace Go.Proofs.Ytbiaamipfhgfeaa.fnFaultText
open Go.ChangeShapes Go.WideShapes Go.ChangeAt Go.RowKit
open Go.ChangeMaps (open_string)
set_option linter.unusedVariables false
set_option maxHeartbeats 4000000 in
theorem walk (v0 : Value) (w : World) (w0 : CodeAt w v0) :
    Calls Try.prog 4 #[v0] w fun e w' => e = .returned (.bool true) ∧ Below w.heap.size w w' := by
  obtain ⟨ad, len, cap, bs, rfl, hlc, hcm, hbl, hbd, hcell⟩ := w0
  have h0 : CodeAt w (.slice ad len cap) := ⟨ad, len, cap, bs, rfl, hlc, hcm, hbl, hbd, hcell⟩
  unfold maxLen at hcm
  clear hbl hbd hcell
  by_cases hbig : 1048576 < len
  · clear h0
    go_enter Try.func4, Try.ntmps4
    go_wp2
    go_ret
    exact ⟨rfl, Below.refl _ _⟩
  · go_enter Try.func4, Try.ntmps4
    go_wp2_with fail
    refine (dFaultText_any _ _ h0).mono ?_; rintro e wA ⟨x, rfl, x0, x1, hA⟩
    go_wp2_with fail
    refine (iFaultText_any _ _).mono ?_; rintro e wB ⟨rfl, hB⟩
    go_wp2_with fail
    refine (sFaultText_any _ _).mono ?_; rintro e wC ⟨rfl, hC⟩
    have hBC : Below w.heap.size w wC := hA.trans ((hB.mono hA.size).trans (hC.mono (Nat.le_trans hA.size hB.size)))
    have HBC := Lib.hid hBC
    clear hA hB hC hBC h0
    go_wp2_with fail
    go_loopw [5] (fun k wr => ∃ n : Nat, n ≤ 8 ∧ k = .int .i64 n ∧ Below w.heap.size w wr) (fun k _ => (8 - intOf k).toNat)
    case atStart => exact ⟨0, by omega, rfl, HBC.out⟩
    case round =>
      obtain ⟨n, hn, rfl, hb⟩ := hrel
      by_cases hlt : n < 8
      · by_cases hkx : (n : Int) = x
        · have hb1 : ((n : Int) != x) = false := by simp [hkx]
          have Hk := Lib.hid hkx
          clear hkx
          go_wp2
          go_roundw
          case rel => exact ⟨n + 1, by omega, by go_num, hb⟩
          case measure => simp [intOf]; omega
        · have hb1 : ((n : Int) != x) = true := by simp [hkx]
          have hne := faultT_ne (n := (n : Int)) (by omega) (by omega) x0 x1 hkx
          clear hkx
          go_wp2_with fail
          refine (iFaultText_any _ _).mono ?_; rintro e wD ⟨rfl, hD⟩
          have HD := Lib.hid (hb.trans (hD.mono hb.size))
          clear hb hD
          go_wp2
          go_roundw
          case rel => exact ⟨n + 1, by omega, by go_num, HD.out⟩
          case measure => simp [intOf]; omega
      · by_cases hx : 0 ≤ x ∧ x ≤ 7
        · obtain ⟨hx0, hx1⟩ := hx
          have hs := faultT_some hx0 hx1
          have hs' : ¬ (faultT x).toList = [] := by intro h; rw [h] at hs; cases hs
          go_wp2_with (go_at_call 18; refine (alive_any _).mono ?_; rintro e w' ⟨rfl, rfl⟩)
          go_ret
          exact ⟨ret_bool (by simp; omega), hb⟩
        · have hs := faultT_none (x := x) (by omega)
          by_cases hx0 : x < 0
          · go_wp2_with (go_at_call 18; refine (alive_any _).mono ?_; rintro e w' ⟨rfl, rfl⟩)
            go_ret
            exact ⟨rfl, hb⟩
          · have hx7 : 7 < x := by omega
            go_wp2_with (go_at_call 18; refine (alive_any _).mono ?_; rintro e w' ⟨rfl, rfl⟩)
            go_ret
            exact ⟨rfl, hb⟩

set_option maxRecDepth 100000 in
theorem lifted (os : Os) (started : os.Started) (H : Type) (enc : TypeId × Value → H) :
    ReturnsInHanded {} Try.checked os 4 .any (Rows.fnFaultTextSpec.pre6 enc Try.prog Try.f4 Rows.fnFaultTextRow.domain false) (Rows.fnFaultTextSpec.post enc Try.prog Try.f4 false true false false) := by
  refine returnsInHanded_of_change (C := Try.checked) own started (by kernel_rfl) Try.func4
    (ChangeSpec.witness6 (enc := enc) (C := Try.checked) false ⟨#[], #[.slice none 0 0], []⟩ 8 (by kernel_rfl) (by kernel_rfl) (by kernel_rfl) (by kernel_rfl)) ?_
  intro W base args ds gs before hval0 hW hcnd _
  have hval : ∀ (j : Nat) t v, Try.f4.params[j]? = some t → args[j]? = some v → Value.okWide Try.prog W .any base t v := hval0
  have hW' := hW
  have hltb : ∀ x ∈ before, x.block < W.heap.size := fun x hx => hW.lt x hx
  obtain ⟨p, q, hA0, hV, rfl, hfz, hnd⟩ := hW
  have hA : DataW.TrodAll enc Try.prog W 0 (fun _ => true) true Try.f4.params.toList args.toList ds p := hA0
  have hlt : ∀ x ∈ p, x.block < W.heap.size := fun x hx => hltb x (List.mem_append_left _ hx)
  have hAll := hA
  rw [Try.params4] at hA hval
  obtain ⟨v0, vs0, d0, ds0, p0, q0, hargs, rfl, rfl, h0, r0⟩ := trodAll_cons hA
  obtain ⟨rfl, rfl, rfl⟩ := trodAll_nil r0
  obtain rfl : args = #[v0] := by cases args; simp_all
  obtain ⟨rfl, rfl⟩ := trodVars_none hV
  clear hA0 hval0
  have hlt0 : ∀ x ∈ p0, x.block < W.heap.size := fun x hx => hlt x (by simp [hx])
  have w0 := open_bytes (hval 0 22 v0 rfl rfl) h0 hlt0
  simp only [List.append_nil] at hW' hltb hAll
  refine (walk v0 W w0).mono fun e W' ⟨he, hg⟩ => ?_
  subst he
  exact ⟨_, rfl, post_of_below (pa := _) (pv := []) hW' (fun _ _ _ => (trodAll_cons_mk (shut_bool Try.underlying4 _) trodAll_mk0))
    (fun sp hsp => trodAll_stays laidOut hg (by kernel_rfl) hAll hltb sp hsp) (fun _ _ => rfl) (by simp) hg (ok_one (by kernel_rfl) rfl (okWide_bool_mk Try.underlying4 _))⟩

theorem over : Rows.fnFaultTextRow.holds Try.pinned (OpenSpec.ofChange Rows.fnFaultTextSpec) :=
  OpenClaim.holds_of_wide 4 Try.f4 rfl rfl rfl rfl rfl rfl rfl ⟨rfl, rfl, rfl, rfl, rfl⟩ rfl rfl rfl rfl rfl (by kernel_rfl) Try.func4 (by kernel_rfl)
    (of_decide_eq_true (by kernel_rfl)) (by unfold Func.isWrapper; first | (rw [if_pos (by decide +kernel)]; kernel_rfl) | (rw [if_neg (by decide +kernel)]; exact ⟨rfl, rfl⟩))
    (fun os started H enc _ => lifted os started H enc)

/-- The statement. -/
theorem proved : Rows.FnFaultTextSaid :=
  over
#print axioms proved
end Go.Proofs.Ytbiaamipfhgfeaa.fnFaultText
