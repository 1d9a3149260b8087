/-
  Accepted texts of modes are canonical; with a space behind they are refused.
  Conditions: none.
-/
import Derived.Test.YtbiaamipfhgfeaaDraws3
import Derived.Test.YtbiaamipfhgfeaaAlive
import Derived.Test.YtbiaamipfhgfeaaRead
namespace Go.Proofs.Ytbiaamipfhgfeaa.fnReadMode
open Go.ChangeShapes Go.WideShapes Go.ChangeAt Go.RowKit
open Go.ChangeMaps (open_string)
set_option linter.unusedVariables false
set_option maxHeartbeats 4000000 in
theorem walk (v0 : Value) (w : World) (w0 : CodeAt w v0) :
    Calls Try.prog 14 #[v0] w fun e w' => e = .returned (.bool true) ∧ Below w.heap.size w w' := by
  obtain ⟨ad, len, cap, bs, rfl, hlc, hcm, hbl, hbd, hcell⟩ := w0
  have h0 : CodeAt w (.slice ad len cap) := ⟨ad, len, cap, bs, rfl, hlc, hcm, hbl, hbd, hcell⟩
  unfold maxLen at hcm
  clear hbl hbd hcell
  by_cases hbig : 1048576 < len
  · clear h0
    go_enter Try.func14, Try.ntmps14
    go_wp2
    go_ret
    exact ⟨rfl, Below.refl _ _⟩
  · go_enter Try.func14, Try.ntmps14
    go_wp2_with fail
    refine (dReadMode_any _ _ h0).mono ?_; rintro e wA ⟨s, rfl, hs, hA⟩
    have hA0 := hA.size
    have HA := Lib.hid hA
    have hsz : s.size ≤ maxLen := by unfold maxLen; omega
    have hsz2 : (s ++ (⟨#[32]⟩ : ByteArray)).size ≤ maxLen := by rw [ByteArray.size_append]; unfold maxLen; show s.size + 1 ≤ _; omega
    have hsp := read_space s
    have Hsp := Lib.hid hsp
    clear hA h0 hsp
    have Hb := Lib.hid (read_back (s := s))
    have Hn := Lib.hid (read_not (s := s))
    cases hb : readB s
    · have hn0 := Hn.out hb
      go_wp2_with fail
      refine (iReadMode_any _ _ hsz).mono ?_; rintro e wB ⟨rfl, hB⟩
      have HB := Lib.hid (HA.out.trans (hB.mono hA0))
      clear hB
      rw [hb, hn0]
      go_wp2_with fail
      refine (sReadMode_any _ _ hsz).mono ?_; rintro e w' ⟨rfl, rfl⟩
      rw [hb, hn0]
      go_wp2_with (go_at_call 18; refine (alive_any _).mono ?_; rintro e w' ⟨rfl, rfl⟩)
      go_ret
      exact ⟨rfl, HB.out⟩
    · have hk := (Hb.out hb).2
      go_wp2_with fail
      refine (iReadMode_any _ _ hsz).mono ?_; rintro e wB ⟨rfl, hB⟩
      have hs2 : w.heap.size ≤ wB.heap.size := Nat.le_trans hA0 hB.size
      have HB := Lib.hid (HA.out.trans (hB.mono hA0))
      clear hB
      rw [hb]
      go_wp2_with fail
      refine (sReadMode_any _ _ hsz).mono ?_; rintro e w' ⟨rfl, rfl⟩
      rw [hb]
      go_wp2_with fail
      refine (iReadMode_any _ _ hsz2).mono ?_; rintro e wC ⟨rfl, hC⟩
      have hs3 : w.heap.size ≤ wC.heap.size := Nat.le_trans hs2 hC.size
      have HC := Lib.hid (HB.out.trans (hC.mono hs2))
      clear hC
      rw [Hsp.out.1, Hsp.out.2]
      go_wp2_with fail
      refine (iModeText_any _ _).mono ?_; rintro e wD ⟨rfl, hD⟩
      have HD := Lib.hid (HC.out.trans (hD.mono hs3))
      clear hD
      go_wp2
      go_ret
      exact ⟨rfl, HD.out⟩

set_option maxRecDepth 100000 in
theorem lifted (os : Os) (started : os.Started) (H : Type) (enc : TypeId × Value → H) :
    ReturnsInHanded {} Try.checked os 14 .any (Rows.fnReadModeSpec.pre6 enc Try.prog Try.f14 Rows.fnReadModeRow.domain false) (Rows.fnReadModeSpec.post enc Try.prog Try.f14 false true false false) := by
  refine returnsInHanded_of_change (C := Try.checked) own started (by kernel_rfl) Try.func14
    (ChangeSpec.witness6 (enc := enc) (C := Try.checked) false ⟨#[], #[.slice none 0 0], []⟩ 8 (by kernel_rfl) (by kernel_rfl) (by kernel_rfl) (by kernel_rfl)) ?_
  intro W base args ds gs before hval0 hW hcnd _
  have hval : ∀ (j : Nat) t v, Try.f14.params[j]? = some t → args[j]? = some v → Value.okWide Try.prog W .any base t v := hval0
  have hW' := hW
  have hltb : ∀ x ∈ before, x.block < W.heap.size := fun x hx => hW.lt x hx
  obtain ⟨p, q, hA0, hV, rfl, hfz, hnd⟩ := hW
  have hA : DataW.TrodAll enc Try.prog W 0 (fun _ => true) true Try.f14.params.toList args.toList ds p := hA0
  have hlt : ∀ x ∈ p, x.block < W.heap.size := fun x hx => hltb x (List.mem_append_left _ hx)
  have hAll := hA
  rw [Try.params14] at hA hval
  obtain ⟨v0, vs0, d0, ds0, p0, q0, hargs, rfl, rfl, h0, r0⟩ := trodAll_cons hA
  obtain ⟨rfl, rfl, rfl⟩ := trodAll_nil r0
  obtain rfl : args = #[v0] := by cases args; simp_all
  obtain ⟨rfl, rfl⟩ := trodVars_none hV
  clear hA0 hval0
  have hlt0 : ∀ x ∈ p0, x.block < W.heap.size := fun x hx => hlt x (by simp [hx])
  have w0 := open_bytes (hval 0 22 v0 rfl rfl) h0 hlt0
  simp only [List.append_nil] at hW' hltb hAll
  refine (walk v0 W w0).mono fun e W' ⟨he, hg⟩ => ?_
  subst he
  exact ⟨_, rfl, post_of_below (pa := _) (pv := []) hW' (fun _ _ _ => (trodAll_cons_mk (shut_bool Try.underlying4 _) trodAll_mk0))
    (fun sp hsp => trodAll_stays laidOut hg (by kernel_rfl) hAll hltb sp hsp) (fun _ _ => rfl) (by simp) hg (ok_one (by kernel_rfl) rfl (okWide_bool_mk Try.underlying4 _))⟩

theorem over : Rows.fnReadModeRow.holds Try.pinned (OpenSpec.ofChange Rows.fnReadModeSpec) :=
  OpenClaim.holds_of_wide 14 Try.f14 rfl rfl rfl rfl rfl rfl rfl ⟨rfl, rfl, rfl, rfl, rfl⟩ rfl rfl rfl rfl rfl (by kernel_rfl) Try.func14 (by kernel_rfl)
    (of_decide_eq_true (by kernel_rfl)) (by unfold Func.isWrapper; first | (rw [if_pos (by decide +kernel)]; kernel_rfl) | (rw [if_neg (by decide +kernel)]; exact ⟨rfl, rfl⟩))
    (fun os started H enc _ => lifted os started H enc)

/-- The statement. -/
theorem proved : Rows.FnReadModeSaid :=
  over
#print axioms proved
end Go.Proofs.Ytbiaamipfhgfeaa.fnReadMode
