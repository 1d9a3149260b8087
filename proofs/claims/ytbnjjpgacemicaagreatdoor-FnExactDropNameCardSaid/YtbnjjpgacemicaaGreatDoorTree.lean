/-
  Contracts: LinksOf of the program and of the reference.
  Conditions: none but bounds.
-/
import Derived.Test.YtbnjjpgacemicaaGreatDoorNodeX
import Derived.Test.YtbnjjpgacemicaaGreatDoorTabE
import Derived.Test.YtbnjjpgacemicaaGreatDoorSmall
namespace Go.Proofs.YtbnjjpgacemicaaGreatDoor
open Go.RowKit Vc
attribute [local irreducible] WpC WpL WpD WpE WpB CallV QCallV Made AppV Ld LdN Ix EndV I64 MutN Mut CellsAt

def bump (out : List Int) (k : Nat) : List Int := out.set k (out.getD k 0 + 1)
def linksGo (n : Nat) : List Int → List Int → Option (List Int)
  | [], out => some out
  | k :: r, out => if inR k 0 (n - 1) = true then linksGo n r (bump out k.toNat) else none
def allKids (ts : List Nd) : List Int := ts.flatMap Nd.kids
/-- By how many names each node is named. -/
def linksOf (ts : List Nd) : List Int := if 16 < ts.length then [] else (linksGo ts.length (allKids ts) (List.replicate ts.length 0)).getD []
theorem bump_length (out : List Int) (k : Nat) : (bump out k).length = out.length := by simp [bump]
theorem linksGo_length {n : Nat} (l : List Int) : ∀ {out r : List Int}, linksGo n l out = some r → r.length = out.length := by
  induction l with
  | nil => intro out r h; cases h; rfl
  | cons k l ih =>
    intro out r h
    unfold linksGo at h
    split at h
    · rw [ih h, bump_length]
    · cases h
theorem linksOf_length (ts : List Nd) : (linksOf ts).length = 0 ∨ (linksOf ts).length = ts.length := by
  unfold linksOf
  split
  · exact .inl rfl
  · cases h : linksGo ts.length (allKids ts) (List.replicate ts.length 0) with
    | none => exact .inl rfl
    | some r => right; have := linksGo_length _ h; simpa using this
/-- What is left of the kids. -/
def leftKids (ts : List Nd) (i j : Nat) : List Int := match ts[i]? with
  | none => []
  | some n => n.kids.drop j ++ allKids (ts.drop (i + 1))
theorem leftKids_zero (ts : List Nd) (i : Nat) : leftKids ts i 0 = allKids (ts.drop i) := by
  unfold leftKids
  split
  · rename_i h
    rw [List.drop_eq_nil_of_le (by simpa using h)]; rfl
  · rename_i n h
    obtain ⟨h1, rfl⟩ := List.getElem?_eq_some_iff.1 h
    rw [List.drop_eq_getElem_cons h1]; rfl
theorem leftKids_cons {ts : List Nd} {i j : Nat} {n : Nd} (h : ts[i]? = some n) (hj : j < n.kids.length) : leftKids ts i j = n.kids[j] :: leftKids ts i (j + 1) := by
  unfold leftKids
  rw [h]
  simp only
  rw [List.drop_eq_getElem_cons hj]; rfl
theorem leftKids_end {ts : List Nd} {i : Nat} {n : Nd} (h : ts[i]? = some n) : leftKids ts i n.kids.length = leftKids ts (i + 1) 0 := by
  rw [leftKids_zero]
  unfold leftKids
  rw [h]
  simp
theorem leftKids_done (ts : List Nd) (j : Nat) : leftKids ts ts.length j = [] := by
  unfold leftKids
  rw [List.getElem?_eq_none (Nat.le_refl _)]
/-- Small counts. -/
def Cnts (out : List Int) (m : Nat) : Prop := ∀ x ∈ out, 0 ≤ x ∧ x ≤ m
theorem Cnts.bump {out : List Int} {m : Nat} (h : Cnts out m) (k : Nat) : Cnts (bump out k) (m + 1) := by
  intro x hx
  unfold Go.Proofs.YtbnjjpgacemicaaGreatDoor.bump at hx
  rcases List.mem_or_eq_of_mem_set hx with hx | rfl
  · have := h x hx; omega
  · rw [List.getD_eq_getElem?_getD]
    cases hk : out[k]? with
    | none => simp; omega
    | some y => have := h y (List.mem_of_getElem? hk); simp; omega
theorem Cnts.mono {out : List Int} {m m' : Nat} (h : Cnts out m) (hm : m ≤ m') : Cnts out m' := fun x hx => by have := h x hx; omega
theorem Cnts.zero (n : Nat) : Cnts (List.replicate n 0) 0 := fun x hx => by
  rw [List.eq_of_mem_replicate hx]; omega
/-- One cell is set. -/
theorem Vc.CellsAt.set1 {w : World} {b k : Nat} {l : List Value} {x : Value} (h : CellsAt w b 0 l) (hm : MutN w b (0 + k) 1) (hk : k < l.length) : CellsAt (setL w b (0 + k) [x]) b 0 (l.set k x) := by
  refine CellsAt.mk fun i v hi => ?_
  rw [List.getElem?_set] at hi
  split at hi
  · rename_i hik
    subst hik
    try rw [if_pos hk] at hi
    cases hi
    exact (CellsAt.setL_in (l := [x]) hm).out 0 x rfl
  · rename_i hik
    rw [Go.Proofs.YtbnjjpgacemicaaGreatDoor.Vc.setL_out _ _ _ (by simp; omega)]
    exact h.out i v hi
theorem ints_bump (out : List Int) (k : Nat) : ints (bump out k) = (ints out).set k (.int .i64 (out.getD k 0 + 1)) := by
  unfold bump ints; rw [List.map_set]

theorem zero_cells {w : World} {g n : Nat} {t : TypeId} (h : w.heap[g]? = some (.cells (madeCells (Value.int .i64 0).cells (n * 1)) t (0, 0))) : CellsAt w g 0 (ints (List.replicate n 0)) := by
  refine CellsAt.of_block (cs := (madeCells (Value.int .i64 0).cells (n * 1)).toList) (by simpa using h) fun i v hi => ?_
  rw [Nat.zero_add]
  simp only [ints, List.map_replicate, List.getElem?_replicate] at hi
  split at hi
  · rename_i hlt
    cases hi
    simp [madeCells, Value.cells, hlt, Nat.mod_one]
  · cases hi
/-- The kids of a node. -/
theorem kids_open {w : World} {n : Nd} {nv kv : Value} (h : NdIn w n nv kv) : ∃ kad kcap, kv = .slice kad n.kids.length kcap ∧ (0 < n.kids.length → ∃ b o, kad = some ⟨b, o, none⟩ ∧ b < w.heap.size ∧ CellsAt w b o (ints n.kids)) := by
  obtain ⟨_, ad, cap, rfl, h2, h3, h4⟩ := h
  have hlen : (ints n.kids).length = n.kids.length := by simp
  rw [hlen] at h4 ⊢
  exact ⟨ad, cap, rfl, fun h0 => let ⟨b, o, e, hc⟩ := h4 h0; ⟨b, o, e, hc.lt (by rw [hlen]; exact h0), hc⟩⟩

/-- The names of a node. -/
theorem names_open {w : World} {n : Nd} {nv kv : Value} (h : NdIn w n nv kv) : ∃ nad ncap, nv = .slice nad n.names.length ncap ∧ (0 < n.names.length → ∃ b o, nad = some ⟨b, o, none⟩ ∧ b < w.heap.size ∧ CellsAt w b o (strs n.names)) := by
  obtain ⟨⟨ad, cap, rfl, h2, h3, h4⟩, _⟩ := h
  have hlen : (strs n.names).length = n.names.length := by simp
  rw [hlen] at h4 ⊢
  exact ⟨ad, cap, rfl, fun h0 => let ⟨b, o, e, hc⟩ := h4 h0; ⟨b, o, e, hc.lt (by rw [hlen]; exact h0), hc⟩⟩

theorem Tree.node {w : World} {v : Value} {ts : List Nd} (hT : Tree w v ts) : ∃ (ad : Option Addr) (cap : Nat), v = .slice ad ts.length cap ∧ (∀ k n, ts[k]? = some n → ∃ b o nv kv, ad = some ⟨b, o, none⟩ ∧ CellsAt w b (o + k * 7) (n.cells nv kv) ∧ NdIn w n nv kv) := by
  obtain ⟨ad, cap, e, _, _, hat⟩ := hT
  refine ⟨ad, cap, e, fun k n hk => ?_⟩
  have hlt := (List.getElem?_eq_some_iff.1 hk).1
  obtain ⟨b, o, e2, _, hc⟩ := hat (by omega)
  obtain ⟨nv, kv, h1, h2⟩ := hc k n hk
  exact ⟨b, o, nv, kv, e2, h1, h2⟩
set_option maxHeartbeats 1000000 in
theorem sLinksOf_vc (ts : List Nd) (v : Value) (w : World) (hT : Tree w v ts) (hs : Sized ts) :
    Calls Tryz.prog 74 #[v] w fun e w' => ∃ v', e = .returned v' ∧ (∃ ad n cap, v' = .slice ad n cap ∧ Buf w.heap.size w' ad n cap 1 (ints (linksOf ts))) ∧ Ext w w' := by
  obtain ⟨ad, cap, rfl, hlc, hcm, hat⟩ := hT
  have hl := hs.1
  refine calls_of cx_ok Tryz.func74 Tryz.ntmps74 Tryz.results74 rfl rfl ?_
  repeat (first | refine jC ?_ | refine jN ?_ | refine jS ?_ | refine jR ?_ | refine jT ?_ | refine jB ?_ | refine jX rfl ?_ | refine jY rfl ?_ | refine jK ?_ | refine jD ?_ | refine jE ?_)
  refine ⟨ts.length, rfl, rfl, by omega, by omega, Made.mk fun g w1 hx1 hg1 hg2 hg3 _ => ?_⟩
  repeat (first | refine jC ?_ | refine jN ?_ | refine jS ?_ | refine jR ?_ | refine jT ?_ | refine jB ?_ | refine jX rfl ?_ | refine jY rfl ?_ | refine jK ?_ | refine jD ?_ | refine jE ?_)
  refine Br.intro (fun h => ?_) (fun h => ?_)
  · have h := of_decide_eq_true h
    repeat (first | refine jC ?_ | refine jN ?_ | refine jS ?_ | refine jR ?_ | refine jT ?_ | refine jB ?_ | refine jX rfl ?_ | refine jY rfl ?_ | refine jK ?_ | refine jD ?_ | refine jE ?_)
    refine Made.mk fun g2 w2 hx2 hh1 hh2 hh3 _ => ?_
    repeat (first | refine jC ?_ | refine jN ?_ | refine jS ?_ | refine jR ?_ | refine jT ?_ | refine jB ?_ | refine jX rfl ?_ | refine jY rfl ?_ | refine jK ?_ | refine jD ?_ | refine jE ?_)
    refine EndV.mk fun w' hw' => ⟨_, rfl, ⟨_, _, _, rfl, ?_⟩, (hx1.trans hx2).trans hw'⟩
    rw [linksOf, if_pos (by omega)]
    exact (Buf.made (by have := hx1.size; omega) hh2 hh3 0 (by simp) (by omega)).ext hw'
  have h16 := of_decide_eq_false h
  repeat (first | refine jC ?_ | refine jN ?_ | refine jS ?_ | refine jR ?_ | refine jT ?_ | refine jB ?_ | refine jX rfl ?_ | refine jY rfl ?_ | refine jK ?_ | refine jD ?_ | refine jE ?_)
  refine WpC.loop (α := Nat × List Int × World) (fun x => ⟨[(0, .v (.slice ad ts.length cap)), (4, .v (.int .i64 (x.1 : Int))), (3, .v (.slice (some ⟨g, 0, none⟩) ts.length ts.length))], [], x.2.2⟩)
    (fun x => x.1 ≤ ts.length ∧ Below g w1 x.2.2 ∧ MutN x.2.2 g 0 ts.length ∧ g < x.2.2.heap.size ∧ x.2.1.length = ts.length ∧ CellsAt x.2.2 g 0 (ints x.2.1) ∧ Cnts x.2.1 (x.1 * 8388608) ∧ linksGo ts.length (leftKids ts x.1 0) x.2.1 = linksGo ts.length (allKids ts) (List.replicate ts.length 0)) (fun x => ts.length - x.1)
    (0, List.replicate ts.length 0, w1) ⟨Nat.zero_le _, Below.refl _ _, MutN.of_block hg3 (by rw [size_madeCells]; omega), hg2, by simp, zero_cells hg3, (Cnts.zero _).mono (Nat.zero_le _), by rw [leftKids_zero, List.drop_zero]⟩ ⟨⟨rfl, rfl, rfl, trivial⟩, trivial, trivial, Ext.refl _⟩ ?_
  rintro ⟨i, out, wi⟩ ⟨hi, hbi, hmi, hgi, hol, hci, hcn, hgo⟩
  dsimp only at hi hbi hmi hgi hol hci hcn hgo ⊢
  repeat (first | refine jC ?_ | refine jN ?_ | refine jS ?_ | refine jR ?_ | refine jT ?_ | refine jB ?_ | refine jX rfl ?_ | refine jY rfl ?_ | refine jK ?_ | refine jD ?_ | refine jE ?_)
  refine Br.intro (fun h => ?_) (fun h => ?_)
  · have hlt : i < ts.length := by have := of_decide_eq_true h; omega
    obtain ⟨b, o, rfl, hb, hc⟩ := hat (by omega)
    have hu : ts[i]? = some ts[i] := List.getElem?_eq_getElem hlt
    have hsn := (hs.2 _ (List.getElem_mem hlt)).2
    generalize ts[i] = n at hu hsn
    obtain ⟨nv, kv, hcn7, hN⟩ := hc i n hu
    obtain ⟨kad, kcap, rfl, hka⟩ := kids_open hN
    repeat (first | refine jC ?_ | refine jN ?_ | refine jS ?_ | refine jR ?_ | refine jT ?_ | refine jB ?_ | refine jX rfl ?_ | refine jY rfl ?_ | refine jK ?_ | refine jD ?_ | refine jE ?_)
    refine WpC.loop (α := Nat × List Int × World) (fun x => ⟨[(0, .v (.slice (some ⟨b, o, none⟩) ts.length cap)), (4, .v (.int .i64 (i : Int))), (5, .v (.int .i64 (x.1 : Int))), (3, .v (.slice (some ⟨g, 0, none⟩) ts.length ts.length))], [], x.2.2⟩)
      (fun x => x.1 ≤ n.kids.length ∧ Below g w1 x.2.2 ∧ MutN x.2.2 g 0 ts.length ∧ g < x.2.2.heap.size ∧ x.2.1.length = ts.length ∧ CellsAt x.2.2 g 0 (ints x.2.1) ∧ Cnts x.2.1 (i * 8388608 + x.1) ∧ linksGo ts.length (leftKids ts i x.1) x.2.1 = linksGo ts.length (allKids ts) (List.replicate ts.length 0)) (fun x => n.kids.length - x.1)
      (0, out, wi) ⟨Nat.zero_le _, hbi, hmi, hgi, hol, hci, hcn.mono (Nat.le_add_right _ _), hgo⟩ ⟨⟨rfl, rfl, rfl, rfl, trivial⟩, trivial, trivial, Ext.refl _⟩ ?_
    rintro ⟨j, out, wj⟩ ⟨hj, hbj, hmj, hgj, hol, hcj, hcn, hgo⟩
    dsimp only at hj hbj hmj hgj hol hcj hcn hgo ⊢
    have hww : Below w.heap.size w wj := Below.trans hx1 (hbj.mono hg1)
    have hc6 : wj.cell? ⟨b, o + i * 7 + 6, none⟩ = some (.slice kad n.kids.length kcap) := (hcn7.below hww (.inr hb)).out 6 _ rfl
    repeat (first | refine jC ?_ | refine jN ?_ | refine jS ?_ | refine jR ?_ | refine jT ?_ | refine jB ?_ | refine jX rfl ?_ | refine jY rfl ?_ | refine jK ?_ | refine jD ?_ | refine jE ?_)
    refine Ix.mk i rfl hlt ?_
    repeat (first | refine jC ?_ | refine jN ?_ | refine jS ?_ | refine jR ?_ | refine jT ?_ | refine jB ?_ | refine jX rfl ?_ | refine jY rfl ?_ | refine jK ?_ | refine jD ?_ | refine jE ?_)
    refine Ld.mk hc6 ?_
    repeat (first | refine jC ?_ | refine jN ?_ | refine jS ?_ | refine jR ?_ | refine jT ?_ | refine jB ?_ | refine jX rfl ?_ | refine jY rfl ?_ | refine jK ?_ | refine jD ?_ | refine jE ?_)
    refine Br.intro (fun h2 => ?_) (fun h2 => ?_)
    · have hjl : j < n.kids.length := by have := of_decide_eq_true h2; omega
      obtain ⟨kb, ko, rfl, hkb, hkc⟩ := hka (by omega)
      have hkc' := hkc.below hww (.inr hkb)
      have hk : (ints n.kids)[j]? = some (.int .i64 n.kids[j]) := by simp [hjl]
      rw [leftKids_cons hu hjl, linksGo] at hgo
      generalize n.kids[j] = k at hk hgo
      repeat (first | refine jC ?_ | refine jN ?_ | refine jS ?_ | refine jR ?_ | refine jT ?_ | refine jB ?_ | refine jX rfl ?_ | refine jY rfl ?_ | refine jK ?_ | refine jD ?_ | refine jE ?_)
      refine Ix.mk i rfl hlt ?_
      repeat (first | refine jC ?_ | refine jN ?_ | refine jS ?_ | refine jR ?_ | refine jT ?_ | refine jB ?_ | refine jX rfl ?_ | refine jY rfl ?_ | refine jK ?_ | refine jD ?_ | refine jE ?_)
      refine Ld.mk hc6 ?_
      repeat (first | refine jC ?_ | refine jN ?_ | refine jS ?_ | refine jR ?_ | refine jT ?_ | refine jB ?_ | refine jX rfl ?_ | refine jY rfl ?_ | refine jK ?_ | refine jD ?_ | refine jE ?_)
      refine Ix.mk j rfl hjl ?_
      repeat (first | refine jC ?_ | refine jN ?_ | refine jS ?_ | refine jR ?_ | refine jT ?_ | refine jB ?_ | refine jX rfl ?_ | refine jY rfl ?_ | refine jK ?_ | refine jD ?_ | refine jE ?_)
      refine Ld.mk (hkc'.out j _ hk) ?_
      repeat (first | refine jC ?_ | refine jN ?_ | refine jS ?_ | refine jR ?_ | refine jT ?_ | refine jB ?_ | refine jX rfl ?_ | refine jY rfl ?_ | refine jK ?_ | refine jD ?_ | refine jE ?_)
      refine ⟨I64.mk (by omega), ?_⟩
      repeat (first | refine jC ?_ | refine jN ?_ | refine jS ?_ | refine jR ?_ | refine jT ?_ | refine jB ?_ | refine jX rfl ?_ | refine jY rfl ?_ | refine jK ?_ | refine jD ?_ | refine jE ?_)
      refine CallV.val (fun w' _ _ => Calls.of_same (l1In_any k 0 (ts.length - 1) w')) ?_
      repeat (first | refine jC ?_ | refine jN ?_ | refine jS ?_ | refine jR ?_ | refine jT ?_ | refine jB ?_ | refine jX rfl ?_ | refine jY rfl ?_ | refine jK ?_ | refine jD ?_ | refine jE ?_)
      refine Br.intro (fun h3 => ?_) (fun h3 => ?_)
      · have h3 : inR k 0 (ts.length - 1) = false := by simpa using h3
        rw [h3, if_neg (by simp)] at hgo
        repeat (first | refine jC ?_ | refine jN ?_ | refine jS ?_ | refine jR ?_ | refine jT ?_ | refine jB ?_ | refine jX rfl ?_ | refine jY rfl ?_ | refine jK ?_ | refine jD ?_ | refine jE ?_)
        refine Made.mk fun g2 w2 hx2 hh1 hh2 hh3 _ => ?_
        repeat (first | refine jC ?_ | refine jN ?_ | refine jS ?_ | refine jR ?_ | refine jT ?_ | refine jB ?_ | refine jX rfl ?_ | refine jY rfl ?_ | refine jK ?_ | refine jD ?_ | refine jE ?_)
        refine EndV.mk fun w' hw' => ⟨_, rfl, ⟨_, _, _, rfl, ?_⟩, (Ext.trans' hx1 (hbj.mono hg1)).trans hx2 |>.trans hw'⟩
        rw [linksOf, if_neg (by omega), ← hgo]
        exact (Buf.made (by have := hww.size; omega) hh2 hh3 0 (by simp) (by omega)).ext hw'
      · have h3 : inR k 0 (ts.length - 1) = true := by simpa using h3
        rw [h3, if_pos rfl] at hgo
        have hr := inR_iff.1 h3
        have hkn : (k.toNat : Int) = k := Int.toNat_of_nonneg hr.1
        have hkl : k.toNat < ts.length := by omega
        have hout : (ints out)[k.toNat]? = some (.int .i64 (out.getD k.toNat 0)) := by
          simp [List.getD_eq_getElem?_getD, List.getElem?_eq_getElem (show k.toNat < out.length by omega)]
        have hbd : 0 ≤ out.getD k.toNat 0 ∧ out.getD k.toNat 0 ≤ i * 8388608 + j := by
          have := hcn (out.getD k.toNat 0) (by rw [List.getD_eq_getElem?_getD, List.getElem?_eq_getElem (show k.toNat < out.length by omega)]; exact List.getElem_mem _)
          exact ⟨this.1, by have := this.2; omega⟩
        have hm1 : MutN wj g (0 + k.toNat) 1 := hmj.sub (by omega)
        have hbu : ints (bump out k.toNat) = _ := ints_bump out k.toNat
        generalize out.getD k.toNat 0 = x at hout hbd hbu
        repeat (first | refine jC ?_ | refine jN ?_ | refine jS ?_ | refine jR ?_ | refine jT ?_ | refine jB ?_ | refine jX rfl ?_ | refine jY rfl ?_ | refine jK ?_ | refine jD ?_ | refine jE ?_)
        refine WpC.drawE (.st 0 (.st 1 (.st 2 (.st 3 (.st 4 (.st 5 (.st 6 (.st 7 (.st 8 (.st 9 (.st 10 (.st 11 (.st 12 (.st 13 (.st 14 (.st 15 (.st 16 (.st 17 (.st 18 (.st 19 (.st 20 (.st 21 (.ef 22 .done .done))))))))))))))))))))))) [(0, .mv), (1, .mv), (2, .mv), (6, .mv), (9, .mv), (10, .mv), (11, .mv), (15, .mv), (22, .br)] (by kernel_rfl) ?_
        repeat (first | refine uM ?_ | refine uR ?_ | refine uE ?_ | refine uB ?_ | refine uA ?_ | refine uD ?_ | refine jC ?_ | refine jN ?_ | refine jS ?_ | refine jR ?_ | refine jT ?_ | refine jB ?_ | refine jX rfl ?_ | refine jY rfl ?_ | refine jK ?_ | refine jD ?_ | refine jE ?_)
        refine Ix.mk i rfl hlt ?_
        repeat (first | refine uM ?_ | refine uR ?_ | refine uE ?_ | refine uB ?_ | refine uA ?_ | refine uD ?_ | refine jC ?_ | refine jN ?_ | refine jS ?_ | refine jR ?_ | refine jT ?_ | refine jB ?_ | refine jX rfl ?_ | refine jY rfl ?_ | refine jK ?_ | refine jD ?_ | refine jE ?_)
        refine Ld.mk hc6 ?_
        repeat (first | refine uM ?_ | refine uR ?_ | refine uE ?_ | refine uB ?_ | refine uA ?_ | refine uD ?_ | refine jC ?_ | refine jN ?_ | refine jS ?_ | refine jR ?_ | refine jT ?_ | refine jB ?_ | refine jX rfl ?_ | refine jY rfl ?_ | refine jK ?_ | refine jD ?_ | refine jE ?_)
        refine Ix.mk j rfl hjl ?_
        repeat (first | refine uM ?_ | refine uR ?_ | refine uE ?_ | refine uB ?_ | refine uA ?_ | refine uD ?_ | refine jC ?_ | refine jN ?_ | refine jS ?_ | refine jR ?_ | refine jT ?_ | refine jB ?_ | refine jX rfl ?_ | refine jY rfl ?_ | refine jK ?_ | refine jD ?_ | refine jE ?_)
        refine Ld.mk (hkc'.out j _ hk) ?_
        repeat (first | refine uM ?_ | refine uR ?_ | refine uE ?_ | refine uB ?_ | refine uA ?_ | refine uD ?_ | refine jC ?_ | refine jN ?_ | refine jS ?_ | refine jR ?_ | refine jT ?_ | refine jB ?_ | refine jX rfl ?_ | refine jY rfl ?_ | refine jK ?_ | refine jD ?_ | refine jE ?_)
        refine Ix.mk i rfl hlt ?_
        repeat (first | refine uM ?_ | refine uR ?_ | refine uE ?_ | refine uB ?_ | refine uA ?_ | refine uD ?_ | refine jC ?_ | refine jN ?_ | refine jS ?_ | refine jR ?_ | refine jT ?_ | refine jB ?_ | refine jX rfl ?_ | refine jY rfl ?_ | refine jK ?_ | refine jD ?_ | refine jE ?_)
        refine Ld.mk hc6 ?_
        repeat (first | refine uM ?_ | refine uR ?_ | refine uE ?_ | refine uB ?_ | refine uA ?_ | refine uD ?_ | refine jC ?_ | refine jN ?_ | refine jS ?_ | refine jR ?_ | refine jT ?_ | refine jB ?_ | refine jX rfl ?_ | refine jY rfl ?_ | refine jK ?_ | refine jD ?_ | refine jE ?_)
        refine Ix.mk j rfl hjl ?_
        repeat (first | refine uM ?_ | refine uR ?_ | refine uE ?_ | refine uB ?_ | refine uA ?_ | refine uD ?_ | refine jC ?_ | refine jN ?_ | refine jS ?_ | refine jR ?_ | refine jT ?_ | refine jB ?_ | refine jX rfl ?_ | refine jY rfl ?_ | refine jK ?_ | refine jD ?_ | refine jE ?_)
        refine Ld.mk (hkc'.out j _ hk) ?_
        repeat (first | refine uM ?_ | refine uR ?_ | refine uE ?_ | refine uB ?_ | refine uA ?_ | refine uD ?_ | refine jC ?_ | refine jN ?_ | refine jS ?_ | refine jR ?_ | refine jT ?_ | refine jB ?_ | refine jX rfl ?_ | refine jY rfl ?_ | refine jK ?_ | refine jD ?_ | refine jE ?_)
        refine Ix.mk k.toNat hkn.symm hkl ?_
        repeat (first | refine uM ?_ | refine uR ?_ | refine uE ?_ | refine uB ?_ | refine uA ?_ | refine uD ?_ | refine jC ?_ | refine jN ?_ | refine jS ?_ | refine jR ?_ | refine jT ?_ | refine jB ?_ | refine jX rfl ?_ | refine jY rfl ?_ | refine jK ?_ | refine jD ?_ | refine jE ?_)
        refine Ld.mk (hcj.out k.toNat _ hout) ?_
        repeat (first | refine uM ?_ | refine uR ?_ | refine uE ?_ | refine uB ?_ | refine uA ?_ | refine uD ?_ | refine jC ?_ | refine jN ?_ | refine jS ?_ | refine jR ?_ | refine jT ?_ | refine jB ?_ | refine jX rfl ?_ | refine jY rfl ?_ | refine jK ?_ | refine jD ?_ | refine jE ?_)
        refine ⟨I64.mk (by omega), ?_⟩
        repeat (first | refine uM ?_ | refine uR ?_ | refine uE ?_ | refine uB ?_ | refine uA ?_ | refine uD ?_ | refine jC ?_ | refine jN ?_ | refine jS ?_ | refine jR ?_ | refine jT ?_ | refine jB ?_ | refine jX rfl ?_ | refine jY rfl ?_ | refine jK ?_ | refine jD ?_ | refine jE ?_)
        refine Ix.mk k.toNat hkn.symm hkl ?_
        repeat (first | refine uM ?_ | refine uR ?_ | refine uE ?_ | refine uB ?_ | refine uA ?_ | refine uD ?_ | refine jC ?_ | refine jN ?_ | refine jS ?_ | refine jR ?_ | refine jT ?_ | refine jB ?_ | refine jX rfl ?_ | refine jY rfl ?_ | refine jK ?_ | refine jD ?_ | refine jE ?_)
        refine ⟨hm1, trivial, rfl, by simp [Value.oneCell'], ?_⟩
        repeat (first | refine uM ?_ | refine uR ?_ | refine uE ?_ | refine uB ?_ | refine uA ?_ | refine uD ?_ | refine jC ?_ | refine jN ?_ | refine jS ?_ | refine jR ?_ | refine jT ?_ | refine jB ?_ | refine jX rfl ?_ | refine jY rfl ?_ | refine jK ?_ | refine jD ?_ | refine jE ?_)
        refine ⟨I64.mk (by omega), ?_⟩
        repeat (first | refine uM ?_ | refine uR ?_ | refine uE ?_ | refine uB ?_ | refine uA ?_ | refine uD ?_ | refine jC ?_ | refine jN ?_ | refine jS ?_ | refine jR ?_ | refine jT ?_ | refine jB ?_ | refine jX rfl ?_ | refine jY rfl ?_ | refine jK ?_ | refine jD ?_ | refine jE ?_)
        refine ⟨(j + 1, bump out k.toNat, setL wj g (0 + k.toNat) [.int .i64 (x + 1)]), ⟨hjl, below_setL hbj (Nat.le_refl _) _ _, MutN.setL _ _ _ hmj, by rw [setL_size]; exact hgj, by rw [bump_length]; exact hol, ?_, (hcn.bump _).mono (by show i * 8388608 + j + 1 ≤ i * 8388608 + (j + 1); omega), hgo⟩, by show n.kids.length - (j + 1) < n.kids.length - j; omega, ⟨rfl, rfl, rfl, rfl, trivial⟩, trivial, trivial, Ext.refl _⟩
        rw [hbu]
        exact hcj.set1 hm1 (by simpa using (show k.toNat < out.length by omega))
    · have hje : j = n.kids.length := by have := of_decide_eq_false h2; omega
      subst hje
      rw [leftKids_end hu] at hgo
      repeat (first | refine jC ?_ | refine jN ?_ | refine jS ?_ | refine jR ?_ | refine jT ?_ | refine jB ?_ | refine jX rfl ?_ | refine jY rfl ?_ | refine jK ?_ | refine jD ?_ | refine jE ?_)
      refine ⟨I64.mk (by omega), ?_⟩
      repeat (first | refine jC ?_ | refine jN ?_ | refine jS ?_ | refine jR ?_ | refine jT ?_ | refine jB ?_ | refine jX rfl ?_ | refine jY rfl ?_ | refine jK ?_ | refine jD ?_ | refine jE ?_)
      exact ⟨(i + 1, out, wj), ⟨hlt, hbj, hmj, hgj, hol, hcj, hcn.mono (by show i * 8388608 + n.kids.length ≤ (i + 1) * 8388608; omega), hgo⟩, by show ts.length - (i + 1) < ts.length - i; omega, ⟨rfl, rfl, rfl, trivial⟩, trivial, trivial, Ext.refl _⟩
  · have hie : i = ts.length := by have := of_decide_eq_false h; omega
    subst hie
    rw [leftKids_done, linksGo] at hgo
    repeat (first | refine jC ?_ | refine jN ?_ | refine jS ?_ | refine jR ?_ | refine jT ?_ | refine jB ?_ | refine jX rfl ?_ | refine jY rfl ?_ | refine jK ?_ | refine jD ?_ | refine jE ?_)
    refine EndV.mk fun w' hw' => ⟨_, rfl, ⟨_, _, _, rfl, ?_⟩, (Ext.trans' hx1 (hbi.mono hg1)).trans hw'⟩
    rw [linksOf, if_neg (by omega), ← hgo]
    refine Buf.ext ⟨Nat.le_refl _, by omega, by simp [hol], fun h => (by cases h), fun p hp => ?_⟩ hw'
    cases hp
    exact ⟨g, rfl, hg1, hgi, by simpa using hmi, hci⟩
set_option maxHeartbeats 1000000 in
theorem iLinksOf_vc (ts : List Nd) (v : Value) (w : World) (hT : Tree w v ts) (hs : Sized ts) :
    Calls Tryz.prog 79 #[v] w fun e w' => ∃ v', e = .returned v' ∧ (∃ ad n cap, v' = .slice ad n cap ∧ Buf w.heap.size w' ad n cap 1 (ints (linksOf ts))) ∧ Ext w w' := by
  obtain ⟨ad, cap, rfl, hlc, hcm, hat⟩ := hT
  have hl := hs.1
  refine calls_of cx_ok Tryz.func79 Tryz.ntmps79 Tryz.results79 rfl rfl ?_
  repeat (first | refine jC ?_ | refine jN ?_ | refine jS ?_ | refine jR ?_ | refine jT ?_ | refine jB ?_ | refine jX rfl ?_ | refine jY rfl ?_ | refine jK ?_ | refine jD ?_ | refine jE ?_)
  refine Br.intro (fun h => ?_) (fun h => ?_)
  · have h := of_decide_eq_true h
    repeat (first | refine jC ?_ | refine jN ?_ | refine jS ?_ | refine jR ?_ | refine jT ?_ | refine jB ?_ | refine jX rfl ?_ | refine jY rfl ?_ | refine jK ?_ | refine jD ?_ | refine jE ?_)
    refine EndV.mk fun w' hw' => ⟨_, rfl, ⟨none, 0, 0, rfl, ?_⟩, hw'⟩
    rw [linksOf, if_pos (by omega)]
    exact Buf.empty _ _ _
  have h16 := of_decide_eq_false h
  repeat (first | refine jC ?_ | refine jN ?_ | refine jS ?_ | refine jR ?_ | refine jT ?_ | refine jB ?_ | refine jX rfl ?_ | refine jY rfl ?_ | refine jK ?_ | refine jD ?_ | refine jE ?_)
  refine ⟨ts.length, rfl, rfl, by omega, by omega, Made.mk fun g w1 hx1 hg1 hg2 hg3 _ => ?_⟩
  repeat (first | refine jC ?_ | refine jN ?_ | refine jS ?_ | refine jR ?_ | refine jT ?_ | refine jB ?_ | refine jX rfl ?_ | refine jY rfl ?_ | refine jK ?_ | refine jD ?_ | refine jE ?_)
  refine WpC.loop (α := Nat × List Int × World) (fun x => ⟨[(0, .v (.slice ad ts.length cap)), (14, .v (.slice ad ts.length cap)), (15, .v (.int .i64 (ts.length : Int))), (16, .v (.int .i64 (x.1 : Int))), (3, .v (.slice (some ⟨g, 0, none⟩) ts.length ts.length))], [], x.2.2⟩)
    (fun x => x.1 ≤ ts.length ∧ Below g w1 x.2.2 ∧ MutN x.2.2 g 0 ts.length ∧ g < x.2.2.heap.size ∧ x.2.1.length = ts.length ∧ CellsAt x.2.2 g 0 (ints x.2.1) ∧ Cnts x.2.1 (x.1 * 8388608) ∧ linksGo ts.length (leftKids ts x.1 0) x.2.1 = linksGo ts.length (allKids ts) (List.replicate ts.length 0)) (fun x => ts.length - x.1)
    (0, List.replicate ts.length 0, w1) ⟨Nat.zero_le _, Below.refl _ _, MutN.of_block hg3 (by rw [size_madeCells]; omega), hg2, by simp, zero_cells hg3, (Cnts.zero _).mono (Nat.zero_le _), by rw [leftKids_zero, List.drop_zero]⟩ ⟨⟨rfl, rfl, rfl, rfl, rfl, trivial⟩, trivial, trivial, Ext.refl _⟩ ?_
  rintro ⟨i, out, wi⟩ ⟨hi, hbi, hmi, hgi, hol, hci, hcn, hgo⟩
  dsimp only at hi hbi hmi hgi hol hci hcn hgo ⊢
  repeat (first | refine jC ?_ | refine jN ?_ | refine jS ?_ | refine jR ?_ | refine jT ?_ | refine jB ?_ | refine jX rfl ?_ | refine jY rfl ?_ | refine jK ?_ | refine jD ?_ | refine jE ?_)
  refine Br.intro (fun h => ?_) (fun h => ?_)
  · have hlt : i < ts.length := by have := of_decide_eq_true h; omega
    obtain ⟨b, o, rfl, hb, hc⟩ := hat (by omega)
    have hu : ts[i]? = some ts[i] := List.getElem?_eq_getElem hlt
    have hsn := (hs.2 _ (List.getElem_mem hlt)).2
    generalize ts[i] = n at hu hsn
    obtain ⟨nv, kv, hcn7, hN⟩ := hc i n hu
    obtain ⟨kad, kcap, rfl, hka⟩ := kids_open hN
    obtain ⟨nad, ncap, rfl, hna⟩ := names_open hN
    have hww : Below w.heap.size w wi := Below.trans hx1 (hbi.mono hg1)
    repeat (first | refine jC ?_ | refine jN ?_ | refine jS ?_ | refine jR ?_ | refine jT ?_ | refine jB ?_ | refine jX rfl ?_ | refine jY rfl ?_ | refine jK ?_ | refine jD ?_ | refine jE ?_)
    refine Ix.mk i rfl hlt ?_
    repeat (first | refine jC ?_ | refine jN ?_ | refine jS ?_ | refine jR ?_ | refine jT ?_ | refine jB ?_ | refine jX rfl ?_ | refine jY rfl ?_ | refine jK ?_ | refine jD ?_ | refine jE ?_)
    refine LdN.mk (hcn7.below hww (.inr hb)) rfl ?_
    repeat (first | refine jC ?_ | refine jN ?_ | refine jS ?_ | refine jR ?_ | refine jT ?_ | refine jB ?_ | refine jX rfl ?_ | refine jY rfl ?_ | refine jK ?_ | refine jD ?_ | refine jE ?_)
    intro b5 hb5
    repeat (first | refine jC ?_ | refine jN ?_ | refine jS ?_ | refine jR ?_ | refine jT ?_ | refine jB ?_ | refine jX rfl ?_ | refine jY rfl ?_ | refine jK ?_ | refine jD ?_ | refine jE ?_)
    refine ⟨by assumption, rfl, by simp, by simp [Value.oneCell'], ?_⟩
    repeat (first | refine jC ?_ | refine jN ?_ | refine jS ?_ | refine jR ?_ | refine jT ?_ | refine jB ?_ | refine jX rfl ?_ | refine jY rfl ?_ | refine jK ?_ | refine jD ?_ | refine jE ?_)
    refine WpC.loop (α := Nat × List Int × World) (fun x => ⟨[(0, .v (.slice (some ⟨b, o, none⟩) ts.length cap)), (14, .v (.slice (some ⟨b, o, none⟩) ts.length cap)), (15, .v (.int .i64 (ts.length : Int))), (16, .v (.int .i64 (i : Int))), (21, .v (.slice kad n.kids.length kcap)), (22, .v (.int .i64 (n.kids.length : Int))), (23, .v (.int .i64 (x.1 : Int))), (3, .v (.slice (some ⟨g, 0, none⟩) ts.length ts.length))], [], x.2.2⟩)
      (fun x => x.1 ≤ n.kids.length ∧ Below g w1 x.2.2 ∧ MutN x.2.2 g 0 ts.length ∧ g < x.2.2.heap.size ∧ x.2.1.length = ts.length ∧ CellsAt x.2.2 g 0 (ints x.2.1) ∧ Cnts x.2.1 (i * 8388608 + x.1) ∧ linksGo ts.length (leftKids ts i x.1) x.2.1 = linksGo ts.length (allKids ts) (List.replicate ts.length 0)) (fun x => n.kids.length - x.1)
      (0, out, wi) ⟨Nat.zero_le _, hbi, hmi, hgi, hol, hci, hcn.mono (Nat.le_add_right _ _), hgo⟩ ⟨⟨rfl, rfl, rfl, rfl, rfl, rfl, rfl, rfl, trivial⟩, trivial, trivial, Ext.refl _⟩ ?_
    rintro ⟨j, out, wj⟩ ⟨hj, hbj, hmj, hgj, hol, hcj, hcn, hgo⟩
    dsimp only at hj hbj hmj hgj hol hcj hcn hgo ⊢
    have hww : Below w.heap.size w wj := Below.trans hx1 (hbj.mono hg1)
    repeat (first | refine jC ?_ | refine jN ?_ | refine jS ?_ | refine jR ?_ | refine jT ?_ | refine jB ?_ | refine jX rfl ?_ | refine jY rfl ?_ | refine jK ?_ | refine jD ?_ | refine jE ?_)
    refine Br.intro (fun h2 => ?_) (fun h2 => ?_)
    · have hjl : j < n.kids.length := by have := of_decide_eq_true h2; omega
      obtain ⟨kb, ko, rfl, hkb, hkc⟩ := hka (by omega)
      have hkc' := hkc.below hww (.inr hkb)
      have hk : (ints n.kids)[j]? = some (.int .i64 n.kids[j]) := by simp [hjl]
      rw [leftKids_cons hu hjl, linksGo] at hgo
      generalize n.kids[j] = k at hk hgo
      repeat (first | refine jC ?_ | refine jN ?_ | refine jS ?_ | refine jR ?_ | refine jT ?_ | refine jB ?_ | refine jX rfl ?_ | refine jY rfl ?_ | refine jK ?_ | refine jD ?_ | refine jE ?_)
      refine Ix.mk j rfl hjl ?_
      repeat (first | refine jC ?_ | refine jN ?_ | refine jS ?_ | refine jR ?_ | refine jT ?_ | refine jB ?_ | refine jX rfl ?_ | refine jY rfl ?_ | refine jK ?_ | refine jD ?_ | refine jE ?_)
      refine Ld.mk (hkc'.out j _ hk) ?_
      repeat (first | refine jC ?_ | refine jN ?_ | refine jS ?_ | refine jR ?_ | refine jT ?_ | refine jB ?_ | refine jX rfl ?_ | refine jY rfl ?_ | refine jK ?_ | refine jD ?_ | refine jE ?_)
      refine ⟨I64.mk (by omega), ?_⟩
      repeat (first | refine jC ?_ | refine jN ?_ | refine jS ?_ | refine jR ?_ | refine jT ?_ | refine jB ?_ | refine jX rfl ?_ | refine jY rfl ?_ | refine jK ?_ | refine jD ?_ | refine jE ?_)
      refine CallV.val (fun w' _ _ => Calls.of_same (within_any k 0 (ts.length - 1) w')) ?_
      repeat (first | refine jC ?_ | refine jN ?_ | refine jS ?_ | refine jR ?_ | refine jT ?_ | refine jB ?_ | refine jX rfl ?_ | refine jY rfl ?_ | refine jK ?_ | refine jD ?_ | refine jE ?_)
      refine Br.intro (fun h3 => ?_) (fun h3 => ?_)
      · have h3 : inR k 0 (ts.length - 1) = false := by simpa using h3
        rw [h3, if_neg (by simp)] at hgo
        repeat (first | refine jC ?_ | refine jN ?_ | refine jS ?_ | refine jR ?_ | refine jT ?_ | refine jB ?_ | refine jX rfl ?_ | refine jY rfl ?_ | refine jK ?_ | refine jD ?_ | refine jE ?_)
        refine EndV.mk fun w' hw' => ⟨_, rfl, ⟨none, 0, 0, rfl, ?_⟩, (Ext.trans' hx1 (hbj.mono hg1)).trans hw'⟩
        rw [linksOf, if_neg (by omega), ← hgo]
        exact Buf.empty _ _ _
      · have h3 : inR k 0 (ts.length - 1) = true := by simpa using h3
        rw [h3, if_pos rfl] at hgo
        have hr := inR_iff.1 h3
        have hkn : (k.toNat : Int) = k := Int.toNat_of_nonneg hr.1
        have hkl : k.toNat < ts.length := by omega
        have hout : (ints out)[k.toNat]? = some (.int .i64 (out.getD k.toNat 0)) := by
          simp [List.getD_eq_getElem?_getD, List.getElem?_eq_getElem (show k.toNat < out.length by omega)]
        have hbd : 0 ≤ out.getD k.toNat 0 ∧ out.getD k.toNat 0 ≤ i * 8388608 + j := by
          have := hcn (out.getD k.toNat 0) (by rw [List.getD_eq_getElem?_getD, List.getElem?_eq_getElem (show k.toNat < out.length by omega)]; exact List.getElem_mem _)
          exact ⟨this.1, by have := this.2; omega⟩
        have hm1 : MutN wj g (0 + k.toNat) 1 := hmj.sub (by omega)
        have hbu : ints (bump out k.toNat) = _ := ints_bump out k.toNat
        generalize out.getD k.toNat 0 = x at hout hbd hbu
        repeat (first | refine jC ?_ | refine jN ?_ | refine jS ?_ | refine jR ?_ | refine jT ?_ | refine jB ?_ | refine jX rfl ?_ | refine jY rfl ?_ | refine jK ?_ | refine jD ?_ | refine jE ?_)
        refine Ix.mk k.toNat hkn.symm hkl ?_
        repeat (first | refine jC ?_ | refine jN ?_ | refine jS ?_ | refine jR ?_ | refine jT ?_ | refine jB ?_ | refine jX rfl ?_ | refine jY rfl ?_ | refine jK ?_ | refine jD ?_ | refine jE ?_)
        refine Ld.mk (hcj.out k.toNat _ hout) ?_
        repeat (first | refine jC ?_ | refine jN ?_ | refine jS ?_ | refine jR ?_ | refine jT ?_ | refine jB ?_ | refine jX rfl ?_ | refine jY rfl ?_ | refine jK ?_ | refine jD ?_ | refine jE ?_)
        refine ⟨I64.mk (by omega), ?_⟩
        repeat (first | refine jC ?_ | refine jN ?_ | refine jS ?_ | refine jR ?_ | refine jT ?_ | refine jB ?_ | refine jX rfl ?_ | refine jY rfl ?_ | refine jK ?_ | refine jD ?_ | refine jE ?_)
        refine Ix.mk k.toNat hkn.symm hkl ?_
        repeat (first | refine jC ?_ | refine jN ?_ | refine jS ?_ | refine jR ?_ | refine jT ?_ | refine jB ?_ | refine jX rfl ?_ | refine jY rfl ?_ | refine jK ?_ | refine jD ?_ | refine jE ?_)
        refine ⟨hm1, trivial, rfl, by simp [Value.oneCell'], ?_⟩
        repeat (first | refine jC ?_ | refine jN ?_ | refine jS ?_ | refine jR ?_ | refine jT ?_ | refine jB ?_ | refine jX rfl ?_ | refine jY rfl ?_ | refine jK ?_ | refine jD ?_ | refine jE ?_)
        refine ⟨I64.mk (by omega), ?_⟩
        repeat (first | refine jC ?_ | refine jN ?_ | refine jS ?_ | refine jR ?_ | refine jT ?_ | refine jB ?_ | refine jX rfl ?_ | refine jY rfl ?_ | refine jK ?_ | refine jD ?_ | refine jE ?_)
        refine ⟨(j + 1, bump out k.toNat, setL wj g (0 + k.toNat) [.int .i64 (x + 1)]), ⟨hjl, below_setL hbj (Nat.le_refl _) _ _, MutN.setL _ _ _ hmj, by rw [setL_size]; exact hgj, by rw [bump_length]; exact hol, ?_, (hcn.bump _).mono (by show i * 8388608 + j + 1 ≤ i * 8388608 + (j + 1); omega), hgo⟩, by show n.kids.length - (j + 1) < n.kids.length - j; omega, ⟨rfl, rfl, rfl, rfl, rfl, rfl, rfl, rfl, trivial⟩, trivial, trivial, Ext.refl _⟩
        rw [hbu]
        exact hcj.set1 hm1 (by simpa using (show k.toNat < out.length by omega))
    · have hje : j = n.kids.length := by have := of_decide_eq_false h2; omega
      subst hje
      rw [leftKids_end hu] at hgo
      repeat (first | refine jC ?_ | refine jN ?_ | refine jS ?_ | refine jR ?_ | refine jT ?_ | refine jB ?_ | refine jX rfl ?_ | refine jY rfl ?_ | refine jK ?_ | refine jD ?_ | refine jE ?_)
      refine ⟨I64.mk (by omega), ?_⟩
      repeat (first | refine jC ?_ | refine jN ?_ | refine jS ?_ | refine jR ?_ | refine jT ?_ | refine jB ?_ | refine jX rfl ?_ | refine jY rfl ?_ | refine jK ?_ | refine jD ?_ | refine jE ?_)
      exact ⟨(i + 1, out, wj), ⟨hlt, hbj, hmj, hgj, hol, hcj, hcn.mono (by show i * 8388608 + n.kids.length ≤ (i + 1) * 8388608; omega), hgo⟩, by show ts.length - (i + 1) < ts.length - i; omega, ⟨rfl, rfl, rfl, rfl, rfl, trivial⟩, trivial, trivial, Ext.refl _⟩
  · have hie : i = ts.length := by have := of_decide_eq_false h; omega
    subst hie
    rw [leftKids_done, linksGo] at hgo
    repeat (first | refine jC ?_ | refine jN ?_ | refine jS ?_ | refine jR ?_ | refine jT ?_ | refine jB ?_ | refine jX rfl ?_ | refine jY rfl ?_ | refine jK ?_ | refine jD ?_ | refine jE ?_)
    refine EndV.mk fun w' hw' => ⟨_, rfl, ⟨_, _, _, rfl, ?_⟩, (Ext.trans' hx1 (hbi.mono hg1)).trans hw'⟩
    rw [linksOf, if_neg (by omega), ← hgo]
    refine Buf.ext ⟨Nat.le_refl _, by omega, by simp [hol], fun h => (by cases h), fun p hp => ?_⟩ hw'
    cases hp
    exact ⟨g, rfl, hg1, hgi, by simpa using hmi, hci⟩
end Go.Proofs.YtbnjjpgacemicaaGreatDoor
