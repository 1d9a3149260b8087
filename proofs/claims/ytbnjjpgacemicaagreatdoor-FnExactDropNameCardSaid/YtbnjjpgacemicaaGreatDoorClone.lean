/-
  Contracts: slices.Clone at texts and numbers; append to a fresh slice.
  Conditions: bounds.
-/
import Derived.Test.YtbnjjpgacemicaaGreatDoorTreeB
import Derived.Test.YtbnjjpgacemicaaGreatDoorVcP
import Derived.Test.YtbnjjpgacemicaaGreatDoorShelf
namespace Go.Proofs.YtbnjjpgacemicaaGreatDoor
open Go.RowKit Vc
set_option linter.unusedVariables false
set_option maxHeartbeats 1000000
attribute [local irreducible] WpC WpL WpD WpE WpB CallV QCallV Made AppV Ld LdN Ix EndV I64 MutN Mut CellsAt

theorem cloneS_call (l : List ByteArray) (v : Value) (w : World) (hR : Row1 w v (strs l)) (hl : l.length ≤ 8388608) :
    Calls Tryz.prog 81 #[v] w fun e w' => ∃ v', e = .returned v' ∧ (∃ g, BufS w.heap.size w'.heap.size w' v' l.length 1 (strs l) g) ∧ Vc.Ext w w' := by
  obtain ⟨ad, cap, rfl, hlc, hcm, hat⟩ := hR
  rw [List.length_map] at hlc hat ⊢
  rcases Nat.eq_zero_or_pos l.length with h0 | h0
  · have : l = [] := List.eq_nil_of_length_eq_zero h0
    subst this
    cases ad with
    | none => exact (Tryz.slices_Clone_string_nil 0 cap w).mono fun e w' ⟨h1, h2⟩ => ⟨_, h1, ⟨0, BufS.nil _ _ _ _ _⟩, by subst h2; exact Vc.Ext.refl _⟩
    | some a => exact (Tryz.slices_Clone_string_zero a cap w).mono fun e w' ⟨v', h1, h2, _, h3⟩ => ⟨v', h1, BufS.of_owns h2, h3⟩
  · obtain ⟨b, o, rfl, hc⟩ := hat h0
    refine (Tryz.slices_Clone_string b o l.length cap l w (Nat.le_refl _) (by omega) (fun j hj => ?_)).mono fun e w' ⟨v', h1, h2, _, h3⟩ => ⟨v', h1, ?_, h3⟩
    · have := hc.out j (.string l[j]) (by simp [hj])
      rw [this]; simp [List.getD_eq_getElem?_getD, hj]
    · rw [List.take_length] at h2
      exact BufS.of_owns h2
theorem cloneI_call (l : List Int) (v : Value) (w : World) (hR : Row1 w v (ints l)) (hl : l.length ≤ 8388608) :
    Calls Tryz.prog 82 #[v] w fun e w' => ∃ v', e = .returned v' ∧ (∃ g, BufS w.heap.size w'.heap.size w' v' l.length 1 (ints l) g) ∧ Vc.Ext w w' := by
  obtain ⟨ad, cap, rfl, hlc, hcm, hat⟩ := hR
  rw [List.length_map] at hlc hat ⊢
  rcases Nat.eq_zero_or_pos l.length with h0 | h0
  · have : l = [] := List.eq_nil_of_length_eq_zero h0
    subst this
    cases ad with
    | none => exact (Tryz.slices_Clone_int_nil 0 cap w).mono fun e w' ⟨h1, h2⟩ => ⟨_, h1, ⟨0, BufS.nil _ _ _ _ _⟩, by subst h2; exact Vc.Ext.refl _⟩
    | some a => exact (Tryz.slices_Clone_int_zero a cap w).mono fun e w' ⟨v', h1, h2, _, h3⟩ => ⟨v', h1, BufS.of_owns h2, h3⟩
  · obtain ⟨b, o, rfl, hc⟩ := hat h0
    refine (Tryz.slices_Clone_int b o l.length cap l w (Nat.le_refl _) (by omega) (fun j hj => ?_)).mono fun e w' ⟨v', h1, h2, _, h3⟩ => ⟨v', h1, ?_, h3⟩
    · have := hc.out j (.int .i64 l[j]) (by simp [hj])
      rw [this]; simp [List.getD_eq_getElem?_getD, hj]
    · rw [List.take_length] at h2
      exact BufS.of_owns h2

theorem BufS.one {lo hi : Nat} {w : World} {v : Value} {n sz : Nat} {xs : List Value} {g : Nat} (h : BufS lo hi w v n sz xs g) : v.oneCell' = true := by
  obtain ⟨ad, cap, rfl, _⟩ := h; rfl

theorem BufS.blk {lo hi : Nat} {w : World} {v : Value} {n sz g : Nat} {xs : List Value} (h : BufS lo hi w v n sz xs g) (hc : 0 < capV v) : lo ≤ g ∧ g < hi := by
  obtain ⟨_, c, rfl, _, _, _, _, hat⟩ := h
  obtain ⟨_, h1, h2, _⟩ := hat hc
  exact ⟨h1, h2⟩
theorem BufS.inB {lo hi : Nat} {w : World} {v : Value} {n sz g : Nat} {xs : List Value} (h : BufS lo hi w v n sz xs g) : InB lo hi v := fun p m c e h0 => by
  obtain ⟨ad, cap, rfl, h1, _, _, _, hat⟩ := h
  cases e
  obtain ⟨e2, h3, h4, _⟩ := hat (by omega)
  cases e2
  exact ⟨h3, h4⟩
/-- append(make(.., 0, 0), xs...). -/
theorem AppV.copyH {H : List OE} {A : World} {e : TypeId} {bytes : Nat} {z : Value} {g m c2 lo : Nat} {a2 : Option Addr} {xs : List Value} {K : Value → World → Prop}
    (hne : OwnNe H g) (hR : Row1 A (.slice a2 m c2) xs) (h1 : ∀ c, c ∈ xs → c.oneCell' = true) (hb : m * bytes ≤ 140737488355328) (hz : z.cells.size = 1) (hlo : lo ≤ A.heap.size)
    (k : ∀ v' A' g', BufS lo A'.heap.size A' v' m 1 xs g' → Vc.Ext A A' → (0 < capV v' → A.heap.size ≤ g') → K v' A') :
    AppV H A e 1 bytes z (some ⟨g, 0, none⟩) 0 0 a2 m K := by
  obtain ⟨ad, cap, e1, h2, h3, h4⟩ := hR
  cases e1
  rcases Nat.eq_zero_or_pos xs.length with h0 | h0
  · have hx : xs = [] := List.eq_nil_of_length_eq_zero h0
    subst hx
    unfold AppV
    refine ⟨[], rfl, fun c hc => (by cases hc), fun p _ h => absurd h (by simp), fun _ => rfl, fun _ => ⟨fun p hp => ?_, ?_⟩, fun h => absurd h (by simp)⟩
    · cases hp; exact ⟨g, 0, rfl, MutN.mk fun i hi => absurd hi (by simp), hne⟩
    · exact k _ A 0 (BufS.zero _ _ _ _ _ _ _) (Vc.Ext.refl _) (fun h => absurd h (by simp [capV]))
  · obtain ⟨b, o, rfl, hc⟩ := h4 h0
    have hb0 : BufS lo A.heap.size A (.slice (some ⟨g, 0, none⟩) 0 0) 0 1 [] 0 := BufS.zero _ _ _ _ _ _ _
    refine AppV.bufS hb0 h0 hc (by simp) h1 (fun h => absurd h (by omega)) (by simpa using hb) (by omega) hz hlo (Nat.le_refl _) fun v' A' g' hB hcv hw => ?_
    rw [Nat.zero_add, List.nil_append] at hB
    rcases hw with ⟨_, h, _⟩ | ⟨hg, hx⟩
    · omega
    · exact k v' A' g' hB hx fun _ => hg
theorem AppV.copyS {A : World} {e : TypeId} {bytes : Nat} {z : Value} {g m c2 lo : Nat} {a2 : Option Addr} {xs : List Value} {K : Value → World → Prop}
    (hR : Row1 A (.slice a2 m c2) xs) (h1 : ∀ c, c ∈ xs → c.oneCell' = true) (hb : m * bytes ≤ 140737488355328) (hz : z.cells.size = 1) (hlo : lo ≤ A.heap.size)
    (k : ∀ v' A' g', BufS lo A'.heap.size A' v' m 1 xs g' → Vc.Ext A A' → (0 < capV v' → A.heap.size ≤ g') → K v' A') :
    AppV [] A e 1 bytes z (some ⟨g, 0, none⟩) 0 0 a2 m K := AppV.copyH trivial hR h1 hb hz hlo k
end Go.Proofs.YtbnjjpgacemicaaGreatDoor
