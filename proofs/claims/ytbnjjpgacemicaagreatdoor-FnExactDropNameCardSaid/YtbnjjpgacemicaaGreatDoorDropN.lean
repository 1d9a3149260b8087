/-
  Contracts: slices.Delete at nodes of the call's own; kids that turn in place.
  Conditions: bounds.
-/
import Derived.Test.YtbnjjpgacemicaaGreatDoorTurnB
import Derived.Test.YtbnjjpgacemicaaGreatDoorVcD
import Derived.Test.YtbnjjpgacemicaaGreatDoorTabE
import Derived.Test.YtbnjjpgacemicaaGreatDoorDropP
namespace Go.Proofs.YtbnjjpgacemicaaGreatDoor
open Go.RowKit Vc
set_option linter.unusedVariables false
set_option maxHeartbeats 1000000
attribute [local irreducible] WpC WpL WpD WpE WpB CallV QCallV Made AppV Ld LdN Ix EndV I64 MutN Mut CellsAt

namespace Vc
section
variable {n : Nat} {E : List (Nat × SV)} {H : List OE} {A : World} {ops r : List Oper} {K : St → Prop}
theorem WpL.slice3 {d t : Nat} {ty : TypeId} {pos : String} {after : Array Edge} {x lo hi mx : Operand} {id : TypeId} {e : TypeId} {sz by_ : Nat} {z : Value} {ad : Option Addr} {len cap L M N : Nat} {k1 k2 k3 : IntKind} {id2 : TypeId} {ty2 : Ty} {sz2 by2 : Nat} {z2 : Value}
    (h1 : L ≤ M) (h2 : M ≤ N) (h3 : N ≤ cap) (k : ∀ v, putS n ⟨E, H, A⟩ (some d) (.v v) fun st => WpL Tryz.prog ⟨tbl, funs, n⟩ ops r K st)
    (hi' : get tbl t = some ⟨id, .slice e, sz, by_, z⟩ := by exact rfl) (he : get tbl e = some ⟨id2, ty2, sz2, by2, z2⟩ := by exact rfl)
    (hx : ev ⟨E, H, A⟩ x = some (.v (.slice ad len cap)) := by exact rfl) (hl : ev ⟨E, H, A⟩ lo = some (.v (.int k1 (L : Int))) := by exact rfl) (hh : ev ⟨E, H, A⟩ hi = some (.v (.int k2 (M : Int))) := by exact rfl) (hm : ev ⟨E, H, A⟩ mx = some (.v (.int k3 (N : Int))) := by exact rfl) :
    WpL Tryz.prog ⟨tbl, funs, n⟩ ops ({ dst := some d, op := .slice t x (some lo) (some hi) (some mx), type := ty, pos := pos, after := after, guard := none } :: r) K ⟨E, H, A⟩ :=
  WpL.slice3_of (P := Tryz.prog) (C := ⟨tbl, funs, n⟩) cx_ok hi' he hx hl hh hm h1 h2 h3 k
theorem WpL.clear1 {t : Nat} {ty : TypeId} {pos : String} {after : Array Edge} {x : Operand} {id : TypeId} {e : TypeId} {sz by_ : Nat} {z : Value} {b o cap : Nat} {id2 : TypeId} {ty2 : Ty} {sz2 by2 : Nat} {z2 : Value}
    (hx : ev ⟨E, H, A⟩ x = some (.v (.slice (some ⟨b, o, none⟩) 1 cap)))
    (hi' : get tbl t = some ⟨id, .slice e, sz, by_, z⟩) (he : get tbl e = some ⟨id2, ty2, sz2, by2, z2⟩)
    (hm : MutN A b o z2.cells.toList.length) (h1 : ∀ c, c ∈ z2.cells.toList → c.oneCell' = true) (hb : b < A.heap.size) (hne : OwnNe H b)
    (k : WpL Tryz.prog ⟨tbl, funs, n⟩ ops r K ⟨E, H, setL A b o z2.cells.toList⟩) :
    WpL Tryz.prog ⟨tbl, funs, n⟩ ops ({ dst := none, op := .call { callee := .builtin .clear, args := #[x], argTypes := #[t] }, type := ty, pos := pos, after := after, guard := none } :: r) K ⟨E, H, A⟩ :=
  WpL.clear1_of (P := Tryz.prog) (C := ⟨tbl, funs, n⟩) cx_ok hi' he hx hm h1 hb hne k
end
end Vc
theorem AppV.fit {H : List OE} {A : World} {e : TypeId} {sz bytes : Nat} {z : Value} {a a2 : Option Addr} {len cap m : Nat} {K : Value → World → Prop} (xs : List Value) (hlen : xs.length = m * sz) (h1 : ∀ c, c ∈ xs → c.oneCell' = true)
    (hsrc : ∀ p, a2 = some p → 0 < m → ∃ b o, p = ⟨b, o, none⟩ ∧ CellsAt A b o xs) (hnil : a2 = none → m = 0) (hfit : len + m ≤ cap) (hm : ∀ p, a = some p → ∃ b o, p = ⟨b, o, none⟩ ∧ MutN A b (o + len * sz) (m * sz) ∧ OwnNe H b)
    (k : K (.slice a (len + m) cap) (appW A a (len * sz) xs)) : AppV H A e sz bytes z a len cap a2 m K := by
  unfold AppV
  exact ⟨xs, hlen, h1, hsrc, hnil, fun _ => ⟨hm, k⟩, fun h => absurd h (by omega)⟩
/-- Where a place comes from when the place p is taken away. -/
def sk (p i : Nat) : Nat := if i < p then i else i + 1
theorem sk_inj {p i j : Nat} (h : sk p i = sk p j) : i = j := by
  unfold sk at h
  split at h <;> split at h <;> omega
theorem erase_at {α : Type} {l : List α} {p i : Nat} {x : α} (h : (l.eraseIdx p)[i]? = some x) : l[sk p i]? = some x := by
  rw [List.getElem?_eraseIdx] at h
  unfold sk
  split at h
  · rename_i h1; rw [if_pos h1]; exact h
  · rename_i h1; rw [if_neg h1]; exact h
theorem erase_lt {α : Type} {l : List α} {p i : Nat} (h : i < (l.eraseIdx p).length) : sk p i < l.length := by
  have h1 := erase_at (List.getElem?_eq_getElem h)
  exact (List.getElem?_eq_some_iff.1 h1).1
/-- The nodes but one, in a block (the same, or another) of the call's own. -/
theorem TB.erase {S : Nat → Prop} {lo hi hi' : Nat} {w W : World} {ad ad' : Option Addr} {cap cap' g g' : Nat} {ts : List Nd} {bl : Nat → Bool → Nat} {pv : Nat → Bool → Value} (h : TB lo hi w ad cap g ts bl pv) (p : Nat) (hX : ExcP S w W) (hh : hi ≤ w.heap.size) (hhi : hi ≤ hi')
    (hS : ∀ i b, i < ts.length → 0 < capV (pv i b) → ¬ S (bl i b)) (hg : ∀ i b, i < ts.length → 0 < capV (pv i b) → bl i b ≠ g')
    (hB : BufS lo hi' W (.slice ad' (ts.eraseIdx p).length cap') (ts.eraseIdx p).length 7 (flat (ts.eraseIdx p) (fun i b => pv (sk p i) b) 0) g') :
    TB lo hi' W ad' cap' g' (ts.eraseIdx p) (fun i b => bl (sk p i) b) (fun i b => pv (sk p i) b) := by
  obtain ⟨_, _, e, h1, h2, h3, h4, h5⟩ := hB
  cases e
  refine ⟨h1, h2, h4, fun h0 => ?_, fun i n b hi => ?_, fun i b j b' hi hj hd hc hc' => ?_, fun i b hi hc => ?_⟩
  · obtain ⟨a, b, c, d, e⟩ := h5 h0
    refine ⟨a, b, c, d, fun i n hi => ?_⟩
    have := flat_cells e i n hi
    rwa [Nat.zero_add, Nat.zero_add] at this
  · have hi2 := erase_at hi
    have hlt := (List.getElem?_eq_some_iff.1 hi2).1
    exact (h.pc _ n b hi2).exc hX (hS _ b hlt) hh hhi
  · exact h.ne _ b _ b' (erase_lt hi) (erase_lt hj) (hd.imp (fun h e => h (sk_inj e)) id) hc hc'
  · exact hg _ b (erase_lt hi) hc

theorem flat_split (ts : List Nd) (pv : Nat → Bool → Value) (k : Nat) (hk : k ≤ ts.length) : ∀ i, flat ts pv i = flat (ts.take k) pv i ++ flat (ts.drop k) pv (i + k) := by
  induction k generalizing ts with
  | zero => intro i; simp [flat]
  | succ k ih =>
    intro i
    cases ts with
    | nil => simp at hk
    | cons n r =>
      rw [List.take_succ_cons, List.drop_succ_cons, flat, flat, ih r (by simpa using hk) (i + 1), List.append_assoc, show i + 1 + k = i + (k + 1) by omega]
theorem flat_shift (ts : List Nd) (pv pv' : Nat → Bool → Value) : ∀ i j, (∀ k b, k < ts.length → pv (i + k) b = pv' (j + k) b) → flat ts pv i = flat ts pv' j := by
  induction ts with
  | nil => intro i j _; rfl
  | cons n r ih =>
    intro i j h
    rw [flat, flat, ih (i + 1) (j + 1) fun k b hk => by
      have := h (k + 1) b (by simpa using hk)
      rwa [show i + (k + 1) = i + 1 + k by omega, show j + (k + 1) = j + 1 + k by omega] at this]
    have h1 := h 0 true (by simp)
    have h2 := h 0 false (by simp)
    rw [Nat.add_zero, Nat.add_zero] at h1 h2
    rw [h1, h2]
theorem flat_erase (ts : List Nd) (pv : Nat → Bool → Value) (p : Nat) (hp : p < ts.length) : flat (ts.eraseIdx p) (fun i b => pv (sk p i) b) 0 = flat (ts.take p) pv 0 ++ flat (ts.drop (p + 1)) pv (p + 1) := by
  have hl : (ts.take p).length = p := by rw [List.length_take]; omega
  rw [List.eraseIdx_eq_take_drop_succ, flat_split (ts.take p ++ ts.drop (p + 1)) _ p (by rw [List.length_append]; omega) 0, List.take_left' hl, List.drop_left' hl]
  congr 1
  · refine flat_shift _ _ _ 0 0 fun k b hk => ?_
    simp only [Nat.zero_add, sk]
    rw [if_pos (by omega)]
  · refine flat_shift _ _ _ _ _ fun k b hk => ?_
    simp only [sk]
    rw [if_neg (by omega)]
    congr 1; omega
theorem flat_one {lo hi : Nat} {w : World} {ad : Option Addr} {cap g : Nat} {ts : List Nd} {bl : Nat → Bool → Nat} {pv : Nat → Bool → Value} (h : TB lo hi w ad cap g ts bl pv) : ∀ c, c ∈ flat ts pv 0 → c.oneCell' = true := by
  have key : ∀ (l : List Nd) i, (∀ j n, l[j]? = some n → ts[i + j]? = some n) → ∀ c, c ∈ flat l pv i → c.oneCell' = true := by
    intro l
    induction l with
    | nil => intro i _ c hc; cases hc
    | cons n r ih =>
      intro i hl c hc
      rw [flat] at hc
      rcases List.mem_append.1 hc with hc | hc
      · have hn := hl 0 n rfl
        rw [Nat.add_zero] at hn
        exact n.cells_one (h.pc i n true hn).one (h.pc i n false hn).one c hc
      · exact ih (i + 1) (fun j m hm => by
          have := hl (j + 1) m (by simpa using hm)
          rwa [show i + (j + 1) = i + 1 + j by omega] at this) c hc
  exact key ts 0 fun j n hj => by rw [Nat.zero_add]; exact hj

theorem deleteN_vc {lo hi : Nat} {w : World} {ad : Option Addr} {cap g p : Nat} {ts : List Nd} {bl : Nat → Bool → Nat} {pv : Nat → Bool → Value} (h : TB lo hi w ad cap g ts bl pv) (hh : hi ≤ w.heap.size) (hp : p < ts.length) (hl : ts.length ≤ 1048576) (q : Int) (hq : q = ((p + 1 : Nat) : Int)) :
    Calls Tryz.prog 80 #[.slice ad ts.length cap, .int .i64 (p : Int), .int .i64 q] w fun e w' => ∃ v, e = .returned v ∧ (v = .slice ad (ts.eraseIdx p).length cap ∧ TB lo hi w' ad cap g (ts.eraseIdx p) (fun i b => bl (sk p i) b) (fun i b => pv (sk p i) b)) ∧ ExcP (fun j => j = g) w w' := by
  subst hq
  have hle := h.le
  have hcm := h.max
  obtain ⟨rfl, hg1, hg2, hm, hcs⟩ := h.open_ hp
  obtain ⟨n, hn⟩ : ∃ n, ts.length = n + 1 := ⟨ts.length - 1, by omega⟩
  have hel : (ts.eraseIdx p).length = n := by rw [List.length_eraseIdx, if_pos hp]; omega
  have hfl : CellsAt w g 0 (flat ts pv 0) := flat_of fun j m hj => by rw [Nat.zero_add, Nat.zero_add]; exact hcs j m hj
  have hone := flat_one h
  rw [flat_split ts pv (p + 1) (by omega) 0, Nat.zero_add] at hfl hone
  have hl1 : (flat (ts.take (p + 1)) pv 0).length = (p + 1) * 7 := by rw [flat_length, List.length_take]; congr 1; omega
  have hl2 : (flat (ts.drop (p + 1)) pv (p + 1)).length = (n - p) * 7 := by rw [flat_length, List.length_drop]; congr 1; omega
  have hsrc := hfl.right
  rw [hl1, Nat.zero_add] at hsrc
  rw [hn] at hle hl hp ⊢
  rw [hel]
  refine calls_of cx_ok Tryz.func80 Tryz.ntmps80 Tryz.results80 rfl rfl ?_
  repeat (first | refine WpL.slice3 (L := p) (M := p + 1) (N := n + 1) ?_ ?_ ?_ (fun v => ?_) | refine jC ?_ | refine jN ?_ | refine jS ?_ | refine jR ?_ | refine jT ?_ | refine jB ?_ | refine jX rfl ?_ | refine jY rfl ?_ | refine jK ?_ | refine jD ?_ | refine jE ?_)
  · omega
  · omega
  · omega
  repeat (first | refine jC ?_ | refine jN ?_ | refine jS ?_ | refine jR ?_ | refine jT ?_ | refine jB ?_ | refine jX rfl ?_ | refine jY rfl ?_ | refine jK ?_ | refine jD ?_ | refine jE ?_)
  refine Br.no (by simp; omega) ?_
  repeat (first | refine jC ?_ | refine jN ?_ | refine jS ?_ | refine jR ?_ | refine jT ?_ | refine jB ?_ | refine jX rfl ?_ | refine jY rfl ?_ | refine jK ?_ | refine jD ?_ | refine jE ?_)
  refine WpC.drawD (ExcP (fun j => j = g) w) (fun w' hw => ExcP.of_ext hw) (.st 0 (.st 1 (.st 2 (.st 3 (.st 4 (.st 5 (.ef 6 (.st 7 .done) .done))))))) [(0, .mv), (1, .mv), (3, .mv), (4, .mv), (6, .ef), (7, .mv)] (by kernel_rfl) ?_
  repeat (first | refine uM ?_ | refine uR ?_ | refine uE ?_ | refine uB ?_ | refine uA ?_ | refine uD ?_ | refine jC ?_ | refine jN ?_ | refine jS ?_ | refine jR ?_ | refine jT ?_ | refine jB ?_ | refine jX rfl ?_ | refine jY rfl ?_ | refine jK ?_ | refine jD ?_ | refine jE ?_)
  refine WpE.rdD (by exact rfl) (by exact rfl) ?_
  refine ⟨_, fun w' hw => ⟨p, rfl, by omega, rfl⟩, ?_⟩
  repeat (first | refine uM ?_ | refine uR ?_ | refine uE ?_ | refine uB ?_ | refine uA ?_ | refine uD ?_ | refine jC ?_ | refine jN ?_ | refine jS ?_ | refine jR ?_ | refine jT ?_ | refine jB ?_ | refine jX rfl ?_ | refine jY rfl ?_ | refine jK ?_ | refine jD ?_ | refine jE ?_)
  refine WpE.rdD (by exact rfl) (by exact rfl) ?_
  refine ⟨_, fun w' hw => ⟨p + 1, rfl, by omega, by omega, rfl⟩, ?_⟩
  repeat (first | refine uM ?_ | refine uR ?_ | refine uE ?_ | refine uB ?_ | refine uA ?_ | refine uD ?_ | refine jC ?_ | refine jN ?_ | refine jS ?_ | refine jR ?_ | refine jT ?_ | refine jB ?_ | refine jX rfl ?_ | refine jY rfl ?_ | refine jK ?_ | refine jD ?_ | refine jE ?_)
  have em : n + 1 - (p + 1) = n - p := by omega
  have ep : p + (n - p) = n := by omega
  have hX1 : ExcP (fun j => j = g) w (setL w g (0 + p * 7) (flat (ts.drop (p + 1)) pv (p + 1))) := (ExcP.refl (fun j => j = g) w).setL (S := fun j => j = g) rfl _ _
  have hfit : MutN w g (0 + p * 7) ((n - p) * 7) := by
    have := hm.sub (k := p * 7) (m := (n - p) * 7) (by rw [← Nat.add_mul, ep]; exact Nat.mul_le_mul_right _ (by omega))
    exact this
  refine AppV.fit (flat (ts.drop (p + 1)) pv (p + 1)) (by rw [hl2, em]) (fun c hc => hone c (List.mem_append_right _ hc)) (fun q hq h0 => ?_) (fun h => ?_) (by omega) (fun q hq => ?_) ?_
  · rw [if_neg (by omega)] at hq
    cases hq
    exact ⟨g, 0 + (p + 1) * 7, addr_add _ _ _, by rw [Nat.zero_add]; exact hsrc⟩
  · split at h <;> cases h
  · cases hq; exact ⟨g, 0, rfl, by rw [em]; exact hfit, trivial⟩
  rw [em, ep]
  refine ⟨Keep.mk fun w' hw => hX1.trans (ExcP.of_ext hw), ?_⟩
  repeat (first | refine uM ?_ | refine uR ?_ | refine uE ?_ | refine uB ?_ | refine uA ?_ | refine uD ?_ | refine jC ?_ | refine jN ?_ | refine jS ?_ | refine jR ?_ | refine jT ?_ | refine jB ?_ | refine jX rfl ?_ | refine jY rfl ?_ | refine jK ?_ | refine jD ?_ | refine jE ?_)
  refine ⟨n, n + 1, rfl, rfl, by omega, by omega, ?_⟩
  have ea : Option.map (fun x : Addr => x.add (n * 7)) (some ⟨g, 0, none⟩) = some ⟨g, 0 + n * 7, none⟩ := by rw [Option.map_some, addr_add]
  rw [if_neg (show ¬ cap = n by omega), show n + 1 - n = 1 by omega, ea]
  have hmA : MutN (setL w g (0 + p * 7) (flat (ts.drop (p + 1)) pv (p + 1))) g 0 (cap * 7) := MutN.setL _ _ _ hm
  have hm7 : MutN (setL w g (0 + p * 7) (flat (ts.drop (p + 1)) pv (p + 1))) g (0 + n * 7) 7 := hmA.sub (k := n * 7) (m := 7) (by rw [← Nat.succ_mul]; exact Nat.mul_le_mul_right _ (by omega))
  have hc1 : CellsAt (setL w g (0 + p * 7) (flat (ts.drop (p + 1)) pv (p + 1))) g (0 + p * 7) (flat (ts.drop (p + 1)) pv (p + 1)) := CellsAt.setL_in (by rw [hl2]; exact hfit)
  have hl0 : (flat (ts.take p) pv 0).length = p * 7 := by rw [flat_length, List.length_take]; congr 1; omega
  have hc0 : CellsAt (setL w g (0 + p * 7) (flat (ts.drop (p + 1)) pv (p + 1))) g 0 (flat (ts.take p) pv 0) := by
    have h0 : CellsAt w g 0 (flat ts pv 0) := flat_of fun j m hj => by rw [Nat.zero_add, Nat.zero_add]; exact hcs j m hj
    rw [flat_split ts pv p (by omega) 0] at h0
    exact h0.left.setL_out (.inr (.inl (by rw [hl0]; omega)))
  have hsz1 : g < (setL w g (0 + p * 7) (flat (ts.drop (p + 1)) pv (p + 1))).heap.size := by rw [setL_size]; omega
  refine WpL.clear1 (b := g) (o := 0 + n * 7) (cap := cap - n) rfl rfl rfl ?_ ?_ ?_ ?_ ?_
  · exact hm7
  · decide
  · exact hsz1
  · trivial
  repeat (first | refine jC ?_ | refine jN ?_ | refine jS ?_ | refine jR ?_ | refine jT ?_ | refine jB ?_ | refine jX rfl ?_ | refine jY rfl ?_ | refine jK ?_ | refine jD ?_ | refine jE ?_)
  refine EndV.mk fun w' hw' => ⟨_, rfl, ⟨rfl, h.erase (S := fun j => j = g) (hi' := hi) (ad' := some ⟨g, 0, none⟩) (cap' := cap) (g' := g) p ((hX1.setL (g := g) rfl _ _).trans (ExcP.of_ext hw')) hh (Nat.le_refl _) (fun i b hi hc e => h.neG i b hi hc e) (fun i b hi hc => h.neG i b hi hc) ⟨_, _, rfl, by rw [hel]; omega, hcm, flat_length _ _ _, fun q hq => by cases hq; exact ⟨_, _, rfl⟩, fun _ => ⟨rfl, hg1, hg2, (MutN.setL _ _ _ hmA).ext hw', ?_⟩⟩⟩, (hX1.setL (g := g) rfl _ _).trans (ExcP.of_ext hw')⟩
  rw [flat_erase ts pv p (by omega)]
  refine CellsAt.ext ?_ hw'
  refine CellsAt.append (hc0.setL_out (.inr (.inl ?_))) ?_
  · rw [hl0, Nat.zero_add, Nat.zero_add]; exact Nat.mul_le_mul_right _ (by omega)
  · rw [hl0]
    refine hc1.setL_out (.inr (.inl ?_))
    rw [hl2]; omega
end Go.Proofs.YtbnjjpgacemicaaGreatDoor
