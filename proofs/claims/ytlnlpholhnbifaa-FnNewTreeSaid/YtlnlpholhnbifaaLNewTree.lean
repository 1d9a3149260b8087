/-
  There is one node, which is a directory, and the one path is /.
  Conditions: none.
-/
import Derived.Test.YtlnlpholhnbifaaDraws
import Derived.Test.YtlnlpholhnbifaaAlive
import Derived.Test.YtlnlpholhnbifaaNewT
import Derived.Test.YtlnlpholhnbifaaSame
import Derived.Test.YtlnlpholhnbifaaPaths
namespace Go.Proofs.Ytlnlpholhnbifaa.fnNewTree
open Go.ChangeShapes Go.WideShapes Go.ChangeAt Go.RowKit
open Go.ChangeMaps (open_string)
set_option linter.unusedVariables false
open Vc
attribute [local irreducible] WpC WpL WpD WpE WpB CallV QCallV Made AppV Ld LdN Ix EndV I64 MutN Mut CellsAt
theorem wf_i64 {n : Int} (h0 : -9223372036854775808 ≤ n) (h1 : n ≤ 9223372036854775807) : (Lit.int .i64 n).wf = true := by
  have e1 : IntKind.i64.min = -9223372036854775808 := by decide
  have e2 : IntKind.i64.max = 9223372036854775807 := by decide
  simp only [Lit.wf, e1, e2, Bool.and_eq_true, decide_eq_true_eq]
  exact ⟨h0, h1⟩
theorem newT_ok {m : Int} (h : inR m 0 1023 = true) : TreeOk (newT m) := by
  rw [newT, if_pos h]
  have one : ∀ {i : Nat} {n : Nd}, ([⟨true, 0, 0, m, ⟨#[]⟩, [], []⟩] : List Nd)[i]? = some n → i = 0 ∧ n = ⟨true, 0, 0, m, ⟨#[]⟩, [], []⟩ := by
    intro i n hi
    cases i with
    | zero => simp at hi; exact ⟨rfl, hi.symm⟩
    | succ i => simp at hi
  refine ⟨by simp, by simp, fun n hn => (one hn).2 ▸ rfl, fun i n hn => ?_, fun i n hn k hk => ?_, fun i n hn k hk => ?_, fun i n h1 hn => ?_, fun i n h1 hn => ?_⟩
  · rw [(one hn).2]
    exact ⟨inR_iff.2 (by simp), inR_iff.2 (by simp), h, rfl, (fun e => by simp at e), fun _ => rfl, Nat.zero_le _, (fun i s hs => by simp at hs), (fun i s t hs => by simp at hs)⟩
  · rw [(one hn).2] at hk; cases hk
  · rw [(one hn).2] at hk; cases hk
  · have := (one hn).1; omega
  · have := (one hn).1; omega
theorem newT_paths {m : Int} (h : inR m 0 1023 = true) : pathsOfF (newT m) = [⟨#[47]⟩] := by
  rw [pathsOfF, if_pos (treeB_yes (newT_ok h)), newT, if_pos h, pathsF]
  simp only [List.getElem?_cons_zero, List.zip_nil_left, List.flatMap_nil]
  rw [joinB, if_neg (by simp [bix])]
  rfl
set_option maxHeartbeats 1000000 in
theorem walk (v0 : Value) (w : World) (w0 : CodeAt w v0) :
    Calls Try.prog 5 #[v0] w fun e w' => e = .returned (.bool true) ∧ Below w.heap.size w w' := by
  obtain ⟨ad, len, cap, bs, rfl, hlc, hcm, hbl, hbd, hcell⟩ := w0
  have h0 : CodeAt w (.slice ad len cap) := ⟨ad, len, cap, bs, rfl, hlc, hcm, hbl, hbd, hcell⟩
  refine calls_of cx_ok Try.func5 Try.ntmps5 Try.results5 rfl rfl ?_
  repeat (first | refine jC ?_ | refine jN ?_ | refine jS ?_ | refine jR ?_ | refine jT ?_ | refine jB ?_ | refine jX rfl ?_ | refine jY rfl ?_ | refine jK ?_ | refine jD ?_ | refine jE ?_)
  refine Br.intro (fun h => ?_) (fun h => ?_)
  · repeat (first | refine jC ?_ | refine jN ?_ | refine jS ?_ | refine jR ?_ | refine jT ?_ | refine jB ?_ | refine jX rfl ?_ | refine jY rfl ?_ | refine jK ?_ | refine jD ?_ | refine jE ?_)
    exact EndV.val rfl (Ext.refl _)
  repeat (first | refine jC ?_ | refine jN ?_ | refine jS ?_ | refine jR ?_ | refine jT ?_ | refine jB ?_ | refine jX rfl ?_ | refine jY rfl ?_ | refine jK ?_ | refine jD ?_ | refine jE ?_)
  refine CallV.mem (fun v _ _ => ∃ x : Int, v = .int .i64 x ∧ -1 ≤ x ∧ x ≤ 1024) (fun w' hw _ => (dNewTree_any _ w' (h0.below hw)).mono fun e w1 ⟨x, h1, h2, h3, h4⟩ => ⟨_, h1, ⟨x, rfl, h2, h3⟩, h4⟩) (fun v wa wb hx1 hx2 _ ⟨m, e, hm1, hm2⟩ => ?_)
  subst e
  repeat (first | refine jC ?_ | refine jN ?_ | refine jS ?_ | refine jR ?_ | refine jT ?_ | refine jB ?_ | refine jX rfl ?_ | refine jY rfl ?_ | refine jK ?_ | refine jD ?_ | refine jE ?_)
  refine CallV.mem _ (fun w' hw _ => iNewTree_vc m w') (fun u1 wc wd hx3 hx4 _ hB1 => ?_)
  have hxd := ((hx1.trans hx2).trans hx3).trans hx4
  repeat (first | refine jC ?_ | refine jN ?_ | refine jS ?_ | refine jR ?_ | refine jT ?_ | refine jB ?_ | refine jX rfl ?_ | refine jY rfl ?_ | refine jK ?_ | refine jD ?_ | refine jE ?_)
  refine CallV.mem _ (fun w' hw _ => sNewTree_vc m w') (fun u2 we wf hx5 hx6 _ hB2 => ?_)
  have hxf := (hxd.trans hx5).trans hx6
  have hT1 := hB1.tree.ext (hx5.trans hx6)
  repeat (first | refine jC ?_ | refine jN ?_ | refine jS ?_ | refine jR ?_ | refine jT ?_ | refine jB ?_ | refine jX rfl ?_ | refine jY rfl ?_ | refine jK ?_ | refine jD ?_ | refine jE ?_)
  refine CallV.val (fun w' hw _ => sameTree_vc (newT m) _ _ w' (hT1.ext hw) (hB2.tree.ext hw)) ?_
  repeat (first | refine jC ?_ | refine jN ?_ | refine jS ?_ | refine jR ?_ | refine jT ?_ | refine jB ?_ | refine jX rfl ?_ | refine jY rfl ?_ | refine jK ?_ | refine jD ?_ | refine jE ?_)
  have hlen : ∃ ad1 cap1, u1 = .slice ad1 (newT m).length cap1 := by
    obtain ⟨ad1, cap1, e, _⟩ := hT1
    exact ⟨ad1, cap1, e⟩
  obtain ⟨ad1, cap1, rfl⟩ := hlen
  cases hm : inR m 0 1023
  · have e : newT m = [] := by rw [newT, if_neg (by rw [hm]; simp)]
    have ho := inR_not.1 hm
    simp only [e, List.length_nil] at hT1 ⊢
    repeat (first | refine jC ?_ | refine jN ?_ | refine jS ?_ | refine jR ?_ | refine jT ?_ | refine jB ?_ | refine jX rfl ?_ | refine jY rfl ?_ | refine jK ?_ | refine jD ?_ | refine jE ?_)
    refine Br.intro (fun h1 => ?_) (fun h1 => ?_)
    · repeat (first | refine jC ?_ | refine jN ?_ | refine jS ?_ | refine jR ?_ | refine jT ?_ | refine jB ?_ | refine jX rfl ?_ | refine jY rfl ?_ | refine jK ?_ | refine jD ?_ | refine jE ?_)
      rw [h1]
      repeat (first | refine jC ?_ | refine jN ?_ | refine jS ?_ | refine jR ?_ | refine jT ?_ | refine jB ?_ | refine jX rfl ?_ | refine jY rfl ?_ | refine jK ?_ | refine jD ?_ | refine jE ?_)
      refine CallV.val (fun w' _ _ => (alive_any w').of_same) ?_
      repeat (first | refine jC ?_ | refine jN ?_ | refine jS ?_ | refine jR ?_ | refine jT ?_ | refine jB ?_ | refine jX rfl ?_ | refine jY rfl ?_ | refine jK ?_ | refine jD ?_ | refine jE ?_)
      exact EndV.val rfl hxf
    · have h2 : decide (1023 < m) = true := by
        have := of_decide_eq_false h1
        exact decide_eq_true (by omega)
      repeat (first | refine jC ?_ | refine jN ?_ | refine jS ?_ | refine jR ?_ | refine jT ?_ | refine jB ?_ | refine jX rfl ?_ | refine jY rfl ?_ | refine jK ?_ | refine jD ?_ | refine jE ?_)
      rw [h2]
      repeat (first | refine jC ?_ | refine jN ?_ | refine jS ?_ | refine jR ?_ | refine jT ?_ | refine jB ?_ | refine jX rfl ?_ | refine jY rfl ?_ | refine jK ?_ | refine jD ?_ | refine jE ?_)
      refine CallV.val (fun w' _ _ => (alive_any w').of_same) ?_
      repeat (first | refine jC ?_ | refine jN ?_ | refine jS ?_ | refine jR ?_ | refine jT ?_ | refine jB ?_ | refine jX rfl ?_ | refine jY rfl ?_ | refine jK ?_ | refine jD ?_ | refine jE ?_)
      exact EndV.val rfl hxf
  · have e : (newT m).length = 1 := by rw [newT, if_pos hm]; rfl
    have hwf : ∀ n ∈ newT m, n.wf := by
      rw [newT, if_pos hm]
      intro n hn
      rw [List.mem_singleton.1 hn]
      exact ⟨rfl, rfl, wf_i64 (by show _ ≤ m; omega) (by show m ≤ _; omega), Nat.zero_le _, by simp, by simp⟩
    have hs : Sized (newT m) := by
      rw [newT, if_pos hm]
      exact ⟨by simp, fun n hn => by rw [List.mem_singleton.1 hn]; simp⟩
    simp only [e] at hT1 ⊢
    repeat (first | refine jC ?_ | refine jN ?_ | refine jS ?_ | refine jR ?_ | refine jT ?_ | refine jB ?_ | refine jX rfl ?_ | refine jY rfl ?_ | refine jK ?_ | refine jD ?_ | refine jE ?_)
    refine CallV.val (fun w' hw _ => iTreeValid_vc (newT m) _ w' (hT1.ext hw) hs hwf) ?_
    rw [treeB_yes (newT_ok hm)]
    repeat (first | refine jC ?_ | refine jN ?_ | refine jS ?_ | refine jR ?_ | refine jT ?_ | refine jB ?_ | refine jX rfl ?_ | refine jY rfl ?_ | refine jK ?_ | refine jD ?_ | refine jE ?_)
    refine CallV.mem _ (fun w' hw _ => iPathsOf_vc (newT m) _ w' (hT1.ext hw) hs hwf) (fun x4 wg wh hx7 hx8 _ ⟨g4, hB4⟩ => ?_)
    rw [newT_paths hm] at hB4
    have hxh := (hxf.trans hx7).trans hx8
    repeat (first | refine jC ?_ | refine jN ?_ | refine jS ?_ | refine jR ?_ | refine jT ?_ | refine jB ?_ | refine jX rfl ?_ | refine jY rfl ?_ | refine jK ?_ | refine jD ?_ | refine jE ?_)
    refine Made.mk fun gl wl hxl hgl1 hgl2 hgl3 _ => ?_
    repeat (first | refine jC ?_ | refine jN ?_ | refine jS ?_ | refine jR ?_ | refine jT ?_ | refine jB ?_ | refine jX rfl ?_ | refine jY rfl ?_ | refine jK ?_ | refine jD ?_ | refine jE ?_)
    refine CallV.val (fun w' hw _ => sameTexts_vc [⟨#[47]⟩] [⟨#[47]⟩] _ _ w' ((hB4.row1.ext hxl).ext hw) ⟨_, _, rfl, by simp, by simp, fun _ => ⟨gl, 0, rfl, (CellsAt.of_block hgl3 fun i v hi => by rw [Nat.zero_add]; exact hi).ext hw⟩⟩ rfl) ?_
    repeat (first | refine jC ?_ | refine jN ?_ | refine jS ?_ | refine jR ?_ | refine jT ?_ | refine jB ?_ | refine jX rfl ?_ | refine jY rfl ?_ | refine jK ?_ | refine jD ?_ | refine jE ?_)
    exact EndV.val rfl (hxh.trans hxl)

set_option maxRecDepth 100000 in
theorem lifted (os : Os) (started : os.Started) (H : Type) (enc : TypeId × Value → H) :
    ReturnsInHanded {} Try.checked os 5 .any (Rows.fnNewTreeSpec.pre6 enc Try.prog Try.f5 Rows.fnNewTreeRow.domain false) (Rows.fnNewTreeSpec.post enc Try.prog Try.f5 false true false false) := by
  refine returnsInHanded_of_change (C := Try.checked) own started (by kernel_rfl) Try.func5
    (ChangeSpec.witness6 (enc := enc) (C := Try.checked) false ⟨#[], #[.slice none 0 0], []⟩ 8 (by kernel_rfl) (by kernel_rfl) (by kernel_rfl) (by kernel_rfl)) ?_
  intro W base args ds gs before hval0 hW hcnd _
  have hval : ∀ (j : Nat) t v, Try.f5.params[j]? = some t → args[j]? = some v → Value.okWide Try.prog W .any base t v := hval0
  have hW' := hW
  have hltb : ∀ x ∈ before, x.block < W.heap.size := fun x hx => hW.lt x hx
  obtain ⟨p, q, hA0, hV, rfl, hfz, hnd⟩ := hW
  have hA : DataW.TrodAll enc Try.prog W 0 (fun _ => true) true Try.f5.params.toList args.toList ds p := hA0
  have hlt : ∀ x ∈ p, x.block < W.heap.size := fun x hx => hltb x (List.mem_append_left _ hx)
  have hAll := hA
  rw [Try.params5] at hA hval
  obtain ⟨v0, vs0, d0, ds0, p0, q0, hargs, rfl, rfl, h0, r0⟩ := trodAll_cons hA
  obtain ⟨rfl, rfl, rfl⟩ := trodAll_nil r0
  obtain rfl : args = #[v0] := by cases args; simp_all
  obtain ⟨rfl, rfl⟩ := trodVars_none hV
  clear hA0 hval0
  have hlt0 : ∀ x ∈ p0, x.block < W.heap.size := fun x hx => hlt x (by simp [hx])
  have w0 := open_bytes (hval 0 39 v0 rfl rfl) h0 hlt0
  simp only [List.append_nil] at hW' hltb hAll
  refine (walk v0 W w0).mono fun e W' ⟨he, hg⟩ => ?_
  subst he
  exact ⟨_, rfl, post_of_below (pa := _) (pv := []) hW' (fun _ _ _ => (trodAll_cons_mk (shut_bool Try.underlying4 _) trodAll_mk0))
    (fun sp hsp => trodAll_stays laidOut hg (by kernel_rfl) hAll hltb sp hsp) (fun _ _ => rfl) (by simp) hg (ok_one (by kernel_rfl) rfl (okWide_bool_mk Try.underlying4 _))⟩

theorem over : Rows.fnNewTreeRow.holds Try.pinned (OpenSpec.ofChange Rows.fnNewTreeSpec) :=
  OpenClaim.holds_of_wide 5 Try.f5 rfl rfl rfl rfl rfl rfl rfl ⟨rfl, rfl, rfl, rfl, rfl⟩ rfl rfl rfl rfl rfl (by kernel_rfl) Try.func5 (by kernel_rfl)
    (of_decide_eq_true (by kernel_rfl)) (by unfold Func.isWrapper; first | (rw [if_pos (by decide +kernel)]; kernel_rfl) | (rw [if_neg (by decide +kernel)]; exact ⟨rfl, rfl⟩))
    (fun os started H enc _ => lifted os started H enc)


/-- The statement. -/
theorem proved : Rows.FnNewTreeSaid :=
  over
#print axioms proved
end Go.Proofs.Ytlnlpholhnbifaa.fnNewTree
