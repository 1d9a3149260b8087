/-
  Contracts: PathParts and AboveOf, the program's and the reference's.
  Conditions: the path has at most 1,048,600 bytes; the library's variable MaxLen holds some number.
-/
import Derived.Test.YtbnjjpgacemicaaGreatDoorJoin
import Derived.Test.YtbnjjpgacemicaaGreatDoorPathP
import Derived.Test.YtbnjjpgacemicaaGreatDoorFrameD
import Derived.Test.YtbnjjpgacemicaaGreatDoorTabE
import Derived.Test.YtbnjjpgacemicaaGreatDoorMarkN
namespace Go.Proofs.YtbnjjpgacemicaaGreatDoor
open Go.RowKit Vc
attribute [local irreducible] WpC WpL WpD WpE WpB CallV QCallV Made AppV Ld LdN Ix EndV I64 MutN Mut CellsAt

/-- Texts in memory of the call's own. -/
def OwnS (B : Nat) (w : World) (v : Value) (l : List ByteArray) : Prop := ∃ (ad : Option Addr) (cap g : Nat), v = .slice ad l.length cap ∧ Row1 w v (strs l) ∧ Wr1 w v l.length g ∧ (0 < l.length → B ≤ g ∧ g < w.heap.size)
theorem OwnS.ext {B : Nat} {w w' : World} {v : Value} {l : List ByteArray} (h : OwnS B w v l) (hx : Ext w w') : OwnS B w' v l := by
  obtain ⟨ad, cap, g, e, h1, h2, h3⟩ := h
  exact ⟨ad, cap, g, e, h1.ext hx, h2.ext hx, fun h0 => ⟨(h3 h0).1, Nat.lt_of_lt_of_le (h3 h0).2 hx.size⟩⟩
theorem OwnS.mono {B B' : Nat} {w : World} {v : Value} {l : List ByteArray} (h : OwnS B w v l) (hb : B' ≤ B) : OwnS B' w v l := by
  obtain ⟨ad, cap, g, e, h1, h2, h3⟩ := h
  exact ⟨ad, cap, g, e, h1, h2, fun h0 => ⟨Nat.le_trans hb (h3 h0).1, (h3 h0).2⟩⟩
theorem OwnS.row {B : Nat} {w : World} {v : Value} {l : List ByteArray} (h : OwnS B w v l) : Row1 w v (strs l) := by
  obtain ⟨ad, cap, g, e, h1, _⟩ := h
  exact h1
theorem OwnS.nil (B : Nat) (w : World) (ad : Option Addr) : OwnS B w (.slice ad 0 0) [] :=
  ⟨ad, 0, 0, rfl, ⟨ad, 0, rfl, Nat.le_refl _, by omega, fun h => absurd h (by simp)⟩, ⟨ad, 0, rfl, Nat.le_refl _, by omega, fun h => absurd h (by simp)⟩, fun h => absurd h (by simp)⟩
theorem OwnS.of_buf {B : Nat} {w : World} {ad : Option Addr} {n cap : Nat} {l : List ByteArray} (h : Buf B w ad n cap 1 (strs l)) : OwnS B w (.slice ad n cap) l := by
  have hn : n = l.length := by have := h.len; simp at this; omega
  subst hn
  obtain ⟨g, h1, h2, h3⟩ := h.wr1
  exact ⟨ad, cap, g, rfl, h.row1, h3, fun h0 => ⟨h1, h2 h0⟩⟩
theorem row1_take {w : World} {ad : Option Addr} {n cap : Nat} {xs : List Value} (h : Row1 w (.slice ad n cap) xs) (k : Nat) (hk : k ≤ xs.length) : Row1 w (.slice ad k cap) (xs.take k) := by
  obtain ⟨ad', cap', e, h1, h2, h3⟩ := h
  cases e
  have hl : (xs.take k).length = k := by rw [List.length_take]; omega
  refine ⟨ad, cap, by rw [hl], by rw [hl]; omega, h2, fun h0 => ?_⟩
  rw [hl] at h0
  obtain ⟨b, o, e, h4⟩ := h3 (by omega)
  refine ⟨b, o, e, CellsAt.mk fun i v hi => ?_⟩
  rw [List.getElem?_take] at hi
  split at hi
  · exact h4.out i v hi
  · cases hi
theorem toList_beq (a b : ByteArray) : (a.toList == b.toList) = decide (a = b) := by
  rw [ByteArray.toList_eq, ByteArray.toList_eq, Bool.eq_iff_iff]
  simp only [beq_iff_eq, decide_eq_true_eq]
  constructor
  · intro h; ext1; exact Array.toList_inj.1 h
  · intro h; rw [h]
theorem path_ne {s : ByteArray} : s.toList == (⟨#[]⟩ : ByteArray).toList ↔ s = ⟨#[]⟩ := by rw [toList_beq]; simp

/-- What the program cuts. -/
def pieces (s : ByteArray) : List ByteArray := Lib.splitB ⟨#[47]⟩ 0 (min 7 (s.size + 1) - 1) s
theorem splitB_size (sep : ByteArray) : ∀ (k : Nat) (s : ByteArray), ∀ x ∈ Lib.splitB sep 0 k s, x.size ≤ s.size := by
  intro k
  induction k with
  | zero =>
    intro s x hx
    rw [Lib.splitB_zero] at hx
    simp at hx
    rw [hx]; exact Nat.le_refl _
  | succ k ih =>
    intro s x hx
    unfold Lib.splitB at hx
    split at hx
    · simp at hx
      rw [hx]; exact Nat.le_refl _
    · rcases List.mem_cons.1 hx with rfl | hx
      · simp; omega
      · have := ih _ x hx
        simp at this
        omega
theorem pieces_size {s x : ByteArray} (h : x ∈ pieces s) : x.size ≤ s.size := splitB_size _ _ s x h
theorem pieces_len (s : ByteArray) : (pieces s).length ≤ min 7 (s.size + 1) := by
  have := Lib.splitB_length_le ⟨#[47]⟩ 0 (min 7 (s.size + 1) - 1) s
  unfold pieces
  omega
theorem hasPrefix_47 (l : List UInt8) : Lib.hasPrefix l [47] = (match l with | [] => false | c :: _ => c == 47) := by
  cases l with
  | nil => rfl
  | cons c t =>
    simp only [Lib.hasPrefix, List.isPrefixOf, Bool.and_true]
    rw [Bool.eq_iff_iff]
    simp only [beq_iff_eq]
    exact eq_comm
theorem trimPrefix_47 (l : List UInt8) : Lib.trimPrefix (47 :: l) [47] = l := by
  simp [Lib.trimPrefix, Lib.hasPrefix, List.isPrefixOf]
theorem partsOf_noslash {s : ByteArray} (h : Lib.hasPrefix s.data.toList [47] = false) : partsOf s = none := by
  refine partsOf_none fun l hl e => ?_
  have := hl.path
  rw [e] at this
  rw [this, hasPrefix_47] at h
  simp at h
theorem split_call (s : ByteArray) (w : World) (hs : s.size ≤ 1048600) (hM : ML w) :
    Calls Tryz.prog 91 #[.string s, .string ⟨#[47]⟩, .int .i64 7] w fun e w' => ∃ v, e = .returned v ∧ OwnS w.heap.size w' v (pieces s) ∧ Ext w w' := by
  obtain ⟨m, hm⟩ := hM
  refine (Tryz.strings_SplitN s ⟨#[47]⟩ 7 m w (by omega) hm (by decide) (by omega) (by omega)).mono ?_
  rintro e w' ⟨rfl, rfl⟩
  refine ⟨_, rfl, ?_, (Below.refl _ w).alloc (Nat.le_refl _) _⟩
  have hlen := pieces_len s
  have hg : (w.alloc (.cells (Lib.cellsOf (pieces s) (min 7 (s.size + 1))) 9)).heap[w.heap.size]? = some (.cells (Lib.cellsOf (pieces s) (min 7 (s.size + 1))) 9 (0, 0)) := Array.getElem?_push_size
  have hc : CellsAt (w.alloc (.cells (Lib.cellsOf (pieces s) (min 7 (s.size + 1))) 9)) w.heap.size 0 (strs (pieces s)) := CellsAt.of_block hg fun i v hi => by
    show (strs (pieces s) ++ _)[0 + i]? = _
    rw [Nat.zero_add, List.getElem?_append_left (List.getElem?_eq_some_iff.1 hi).1]
    exact hi
  have hmut : MutN (w.alloc (.cells (Lib.cellsOf (pieces s) (min 7 (s.size + 1))) 9)) w.heap.size 0 (pieces s).length := MutN.of_block hg (by rw [Lib.cellsOf_size hlen]; omega)
  exact ⟨some ⟨w.heap.size, 0, none⟩, _, w.heap.size, rfl, ⟨_, _, by rw [List.length_map]; rfl, by rw [List.length_map]; exact hlen, by omega, fun _ => ⟨_, _, rfl, hc⟩⟩, ⟨_, _, rfl, hlen, by omega, fun _ => ⟨0, rfl, hmut⟩⟩, fun _ => ⟨Nat.le_refl _, by simp⟩⟩
theorem iPathParts_vc (s : ByteArray) (w : World) (hs : s.size ≤ 1048600) (hM : ML w) :
    Calls Tryz.prog 57 #[.string s] w fun e w' => ∃ v, e = .returned v ∧ (∃ u, v = .tuple #[u, .bool (partsOf s).isSome] ∧ OwnS w.heap.size w' u ((partsOf s).getD [])) ∧ Ext w w' := by
  refine calls_of cx_ok Tryz.func57 Tryz.ntmps57 Tryz.results57 rfl rfl ?_
  repeat (first | refine jC ?_ | refine jN ?_ | refine jS ?_ | refine jR ?_ | refine jT ?_ | refine jB ?_ | refine jX rfl ?_ | refine jY rfl ?_ | refine jK ?_ | refine jD ?_ | refine jE ?_)
  refine CallV.val (fun w' _ _ => (Tryz.strings_CutPrefix s ⟨#[47]⟩ w').mono fun e w'' ⟨h1, h2⟩ => ⟨h1, by subst h2; exact Ext.refl _⟩) ?_
  repeat (first | refine jC ?_ | refine jN ?_ | refine jS ?_ | refine jR ?_ | refine jT ?_ | refine jB ?_ | refine jX rfl ?_ | refine jY rfl ?_ | refine jK ?_ | refine jD ?_ | refine jE ?_)
  refine Made.mk fun g0 w0 hx0 hg1 hg2 hg3 _ => ?_
  repeat (first | refine jC ?_ | refine jN ?_ | refine jS ?_ | refine jR ?_ | refine jT ?_ | refine jB ?_ | refine jX rfl ?_ | refine jY rfl ?_ | refine jK ?_ | refine jD ?_ | refine jE ?_)
  have hM0 := hM.ext hx0
  cases hp : Lib.hasPrefix s.data.toList [47] with
  | false =>
    have hn := partsOf_noslash hp
    have hrs : (⟨(Lib.trimPrefix s.data.toList [47]).toArray⟩ : ByteArray) = s := by
      have : Lib.trimPrefix s.data.toList [47] = s.data.toList := by simp [Lib.trimPrefix, hp]
      rw [this]
    rw [hrs]
    refine Br.intro (fun h => ?_) (fun h => ?_)
    · repeat (first | refine jC ?_ | refine jN ?_ | refine jS ?_ | refine jR ?_ | refine jT ?_ | refine jB ?_ | refine jX rfl ?_ | refine jY rfl ?_ | refine jK ?_ | refine jD ?_ | refine jE ?_)
      refine CallV.mem _ (fun w' hw _ => split_call s w' hs (hM0.ext hw)) (fun x1 wa wb hx1 hx2 _ hO => ?_)
      repeat (first | refine jC ?_ | refine jN ?_ | refine jS ?_ | refine jR ?_ | refine jT ?_ | refine jB ?_ | refine jX rfl ?_ | refine jY rfl ?_ | refine jK ?_ | refine jD ?_ | refine jE ?_)
      refine EndV.mk fun w' hw' => ⟨_, rfl, ⟨_, by rw [hn]; rfl, by rw [hn]; exact OwnS.nil _ _ _⟩, ((hx0.trans hx1).trans hx2).trans hw'⟩
    · repeat (first | refine jC ?_ | refine jN ?_ | refine jS ?_ | refine jR ?_ | refine jT ?_ | refine jB ?_ | refine jX rfl ?_ | refine jY rfl ?_ | refine jK ?_ | refine jD ?_ | refine jE ?_)
      refine EndV.mk fun w' hw' => ⟨_, rfl, ⟨_, by rw [hn]; rfl, by rw [hn]; exact OwnS.nil _ _ _⟩, hx0.trans hw'⟩
  | true =>
    obtain ⟨r, hr⟩ : ∃ r, s.data.toList = 47 :: r := by
      rw [hasPrefix_47] at hp
      cases hd : s.data.toList with
      | nil => rw [hd] at hp; cases hp
      | cons c t => rw [hd] at hp; exact ⟨t, by rw [eq_of_beq hp]⟩
    have hne : s ≠ ⟨#[]⟩ := fun e => by rw [e] at hr; cases hr
    rw [hr, trimPrefix_47]
    have hrs : (⟨r.toArray⟩ : ByteArray).size + 1 = s.size := by
      have := congrArg List.length hr
      simp at this
      show r.length + 1 = _
      omega
    refine Br.intro (fun h => ?_) (fun h => ?_)
    · have h0 : r ≠ [] := fun e => by subst e; rw [empty_text2] at h; simp at h
      have hsp : partsOf s = if joinB (pieces ⟨r.toArray⟩) = s then some (pieces ⟨r.toArray⟩) else none := partsOf_try _ hne fun l hl e => by
        have hpa := hl.path
        rw [e, hr] at hpa
        have hrj : r = Lib.join (l.map (·.data.toList)) [47] := (List.cons.inj hpa).2
        have hl0 : l ≠ [] := fun e2 => by subst e2; exact h0 hrj
        exact splitB_good hl hl0 _ (by simpa using hrj)
      repeat (first | refine jC ?_ | refine jN ?_ | refine jS ?_ | refine jR ?_ | refine jT ?_ | refine jB ?_ | refine jX rfl ?_ | refine jY rfl ?_ | refine jK ?_ | refine jD ?_ | refine jE ?_)
      refine CallV.mem _ (fun w' hw _ => split_call ⟨r.toArray⟩ w' (by omega) (hM0.ext hw)) (fun x1 wa wb hx1 hx2 _ hO => ?_)
      repeat (first | refine jC ?_ | refine jN ?_ | refine jS ?_ | refine jR ?_ | refine jT ?_ | refine jB ?_ | refine jX rfl ?_ | refine jY rfl ?_ | refine jK ?_ | refine jD ?_ | refine jE ?_)
      refine CallV.val (fun w' hw _ => iJoinPath_vc _ _ w' (hO.row.ext hw) fun x hx => by have := pieces_size hx; omega) ?_
      repeat (first | refine jC ?_ | refine jN ?_ | refine jS ?_ | refine jR ?_ | refine jT ?_ | refine jB ?_ | refine jX rfl ?_ | refine jY rfl ?_ | refine jK ?_ | refine jD ?_ | refine jE ?_)
      refine Br.intro (fun h2 => ?_) (fun h2 => ?_)
      · rw [toList_beq] at h2
        have h2 : ¬ joinB (pieces ⟨r.toArray⟩) = s := by simpa using h2
        rw [if_neg h2] at hsp
        repeat (first | refine jC ?_ | refine jN ?_ | refine jS ?_ | refine jR ?_ | refine jT ?_ | refine jB ?_ | refine jX rfl ?_ | refine jY rfl ?_ | refine jK ?_ | refine jD ?_ | refine jE ?_)
        refine EndV.mk fun w' hw' => ⟨_, rfl, ⟨_, by rw [hsp]; rfl, by rw [hsp]; exact OwnS.nil _ _ _⟩, ((hx0.trans hx1).trans hx2).trans hw'⟩
      · rw [toList_beq] at h2
        have h2 : joinB (pieces ⟨r.toArray⟩) = s := by simpa using h2
        rw [if_pos h2] at hsp
        repeat (first | refine jC ?_ | refine jN ?_ | refine jS ?_ | refine jR ?_ | refine jT ?_ | refine jB ?_ | refine jX rfl ?_ | refine jY rfl ?_ | refine jK ?_ | refine jD ?_ | refine jE ?_)
        refine EndV.mk fun w' hw' => ⟨_, rfl, ⟨_, by rw [hsp]; rfl, by rw [hsp]; exact (hO.mono (by have := hx0.size; have := hx1.size; omega)).ext hw'⟩, ((hx0.trans hx1).trans hx2).trans hw'⟩
    · have h0 : r = [] := by
        cases r with
        | nil => rfl
        | cons c t => rw [empty_text2] at h; simp at h
      subst h0
      have e : joinB [] = s := by
        have := (jn_nil_path (l := []) ⟨by simp, fun s hs => absurd hs (by simp)⟩).2 rfl
        rw [this]
        ext1
        exact Array.toList_inj.1 hr.symm
      have hsp : partsOf s = some [] := partsOf_eq ⟨by simp, fun s hs => absurd hs (by simp)⟩ e
      have hR : Row1 w0 (.slice (some ⟨g0, 0, none⟩) 0 0) (strs []) := ⟨_, _, rfl, Nat.le_refl _, by omega, fun h => absurd h (by simp)⟩
      repeat (first | refine jC ?_ | refine jN ?_ | refine jS ?_ | refine jR ?_ | refine jT ?_ | refine jB ?_ | refine jX rfl ?_ | refine jY rfl ?_ | refine jK ?_ | refine jD ?_ | refine jE ?_)
      refine CallV.val (fun w' hw _ => iJoinPath_vc [] _ w' (hR.ext hw) fun x hx => absurd hx (by simp)) ?_
      repeat (first | refine jC ?_ | refine jN ?_ | refine jS ?_ | refine jR ?_ | refine jT ?_ | refine jB ?_ | refine jX rfl ?_ | refine jY rfl ?_ | refine jK ?_ | refine jD ?_ | refine jE ?_)
      refine Br.no (by rw [toList_beq, e]; simp) ?_
      repeat (first | refine jC ?_ | refine jN ?_ | refine jS ?_ | refine jR ?_ | refine jT ?_ | refine jB ?_ | refine jX rfl ?_ | refine jY rfl ?_ | refine jK ?_ | refine jD ?_ | refine jE ?_)
      refine EndV.mk fun w' hw' => ⟨_, rfl, ⟨_, by rw [hsp]; rfl, by rw [hsp]; exact OwnS.nil _ _ _⟩, hx0.trans hw'⟩
theorem addB_slash (out : List ByteArray) : addB out 47 = out ++ [⟨#[]⟩] := by rw [addB, if_pos rfl]
theorem addB_none (c : UInt8) (hc : c ≠ 47) : addB [] c = [] := by rw [addB, if_neg hc]; rfl
theorem addB_last {out : List ByteArray} {c : UInt8} (hc : c ≠ 47) {n : Nat} {x : ByteArray} (hn : out.length = n + 1) (hx : out[n]? = some x) : addB out c = out.set n ⟨(x.data.toList ++ [c]).toArray⟩ := by
  have hl : out.getLast? = some x := by rw [List.getLast?_eq_getElem?, hn]; exact hx
  rw [addB, if_neg hc, hl]
  simp only
  have hne : out ≠ [] := fun e => by subst e; simp at hn
  have e := List.dropLast_concat_getLast hne
  rw [List.getLast?_eq_some_getLast hne] at hl
  have hx' : out.getLast hne = x := Option.some.inj hl
  rw [hx'] at e
  have hdl : out.dropLast.length = n := by simp [hn]
  rw [← e, List.set_append, if_neg (by omega), hdl, Nat.sub_self]
  simp
theorem spl_step (s : ByteArray) (k : Nat) (h : k < s.size) : spl (s.data.toList.take (k + 1)) [] = addB (spl (s.data.toList.take k) []) s[k] := by
  rw [take_snoc _ k (by simpa using h), spl, List.foldl_append]
  rfl
theorem spl_all (s : ByteArray) : s.data.toList.take s.size = s.data.toList := List.take_of_length_le (by simp)
theorem set_last_size {out : List ByteArray} {n B : Nat} {y : ByteArray} (h : ∀ x ∈ out, x.size ≤ B) (hy : y.size ≤ B + 1) : ∀ x ∈ out.set n y, x.size ≤ B + 1 := by
  intro x hx
  rcases List.mem_or_eq_of_mem_set hx with h1 | rfl
  · have := h x h1; omega
  · exact hy
set_option maxHeartbeats 1000000 in
theorem sPathParts_vc (s : ByteArray) (w : World) (hs : s.size ≤ 1048600) :
    Calls Tryz.prog 53 #[.string s] w fun e w' => ∃ v, e = .returned v ∧ (∃ u, v = .tuple #[u, .bool (partsOf s).isSome] ∧ OwnS w.heap.size w' u ((partsOf s).getD [])) ∧ Ext w w' := by
  refine calls_of cx_ok Tryz.func53 Tryz.ntmps53 Tryz.results53 rfl rfl ?_
  repeat (first | refine jC ?_ | refine jN ?_ | refine jS ?_ | refine jR ?_ | refine jT ?_ | refine jB ?_ | refine jX rfl ?_ | refine jY rfl ?_ | refine jK ?_ | refine jD ?_ | refine jE ?_)
  refine Made.mk fun g0 w0 hx0 hg1 hg2 hg3 _ => ?_
  have hb0 := Buf.made (sz := 1) hg1 hg2 hg3 0 rfl (by omega)
  repeat (first | refine jC ?_ | refine jN ?_ | refine jS ?_ | refine jR ?_ | refine jT ?_ | refine jB ?_ | refine jX rfl ?_ | refine jY rfl ?_ | refine jK ?_ | refine jD ?_ | refine jE ?_)
  refine Br.intro (fun h => ?_) (fun h => ?_)
  · rw [toList_beq] at h
    have h : s = ⟨#[47]⟩ := of_decide_eq_true h
    have hsp : partsOf s = some [] := partsOf_eq ⟨by simp, fun s hs => absurd hs (by simp)⟩ (by rw [h]; exact (jn_nil_path (l := []) ⟨by simp, fun s hs => absurd hs (by simp)⟩).2 rfl)
    repeat (first | refine jC ?_ | refine jN ?_ | refine jS ?_ | refine jR ?_ | refine jT ?_ | refine jB ?_ | refine jX rfl ?_ | refine jY rfl ?_ | refine jK ?_ | refine jD ?_ | refine jE ?_)
    exact EndV.mk fun w' hw' => ⟨_, rfl, ⟨_, by rw [hsp]; rfl, by rw [hsp]; exact OwnS.nil _ _ _⟩, hx0.trans hw'⟩
  rw [toList_beq] at h
  have hne1 : s ≠ ⟨#[47]⟩ := of_decide_eq_false h
  repeat (first | refine jC ?_ | refine jN ?_ | refine jS ?_ | refine jR ?_ | refine jT ?_ | refine jB ?_ | refine jX rfl ?_ | refine jY rfl ?_ | refine jK ?_ | refine jD ?_ | refine jE ?_)
  refine WpC.loop (α := Nat × Option Addr × Nat × World) (fun x => ⟨[(0, .v (.string s)), (2, .v (.slice none 0 0)), (3, .v (.bool false)), (5, .v (.int .i64 (x.1 : Int))), (4, .v (.slice x.2.1 (spl (s.data.toList.take x.1) []).length x.2.2.1))], [], x.2.2.2⟩)
    (fun x => x.1 ≤ s.size ∧ Below w.heap.size w x.2.2.2 ∧ Buf w.heap.size x.2.2.2 x.2.1 (spl (s.data.toList.take x.1) []).length x.2.2.1 1 (strs (spl (s.data.toList.take x.1) [])) ∧ (spl (s.data.toList.take x.1) []).length ≤ x.1 ∧ ∀ y ∈ spl (s.data.toList.take x.1) [], y.size ≤ x.1) (fun x => s.size - x.1) (0, some ⟨g0, 0, none⟩, 0, w0)
    ⟨Nat.zero_le _, hx0, hb0, Nat.le_refl _, fun y hy => absurd hy (by simp [spl])⟩ ⟨⟨rfl, rfl, rfl, rfl, rfl, trivial⟩, trivial, trivial, Ext.refl _⟩ ?_
  rintro ⟨k, ad, cap, wk⟩ ⟨hk, hx, hb, hlk, hsz⟩
  dsimp only at hk hx hb hlk hsz ⊢
  repeat (first | refine jC ?_ | refine jN ?_ | refine jS ?_ | refine jR ?_ | refine jT ?_ | refine jB ?_ | refine jX rfl ?_ | refine jY rfl ?_ | refine jK ?_ | refine jD ?_ | refine jE ?_)
  refine Br.intro (fun h => ?_) (fun h => ?_)
  · have hlt : k < s.size := by have := of_decide_eq_true h; omega
    have hst := spl_step s k hlt
    generalize hout : spl (s.data.toList.take k) [] = out at hb hlk hsz hst ⊢
    repeat (first | refine jC ?_ | refine jN ?_ | refine jS ?_ | refine jR ?_ | refine jT ?_ | refine jB ?_ | refine jX rfl ?_ | refine jY rfl ?_ | refine jK ?_ | refine jD ?_ | refine jE ?_)
    refine Ix.mk k rfl hlt ⟨hlt, ?_⟩
    repeat (first | refine jC ?_ | refine jN ?_ | refine jS ?_ | refine jR ?_ | refine jT ?_ | refine jB ?_ | refine jX rfl ?_ | refine jY rfl ?_ | refine jK ?_ | refine jD ?_ | refine jE ?_)
    refine Br.intro (fun h2 => ?_) (fun h2 => ?_)
    · have h2 := of_decide_eq_true h2
      have hc : s[k] = 47 := UInt8.toNat_inj.1 (by show _ = 47; omega)
      rw [hc, addB_slash] at hst
      repeat (first | refine jC ?_ | refine jN ?_ | refine jS ?_ | refine jR ?_ | refine jT ?_ | refine jB ?_ | refine jX rfl ?_ | refine jY rfl ?_ | refine jK ?_ | refine jD ?_ | refine jE ?_)
      refine Made.mk fun g2 w2 hx2 hg21 hg22 hg23 hne => ?_
      repeat (first | refine jC ?_ | refine jN ?_ | refine jS ?_ | refine jR ?_ | refine jT ?_ | refine jB ?_ | refine jX rfl ?_ | refine jY rfl ?_ | refine jK ?_ | refine jD ?_ | refine jE ?_)
      refine AppV.buf (hb.ext hx2) (news := [.string ⟨#[]⟩]) (CellsAt.of_block hg23 (fun i v hi => by simpa using hi)) rfl (by simp [Value.oneCell']) (fun p hp => trivial) (by omega) (by omega) rfl (by have := hx2.size; have := hx.size; omega) (fun ad3 cap3 A3 hb3 hx3 hf3 => ?_)
      repeat (first | refine jC ?_ | refine jN ?_ | refine jS ?_ | refine jR ?_ | refine jT ?_ | refine jB ?_ | refine jX rfl ?_ | refine jY rfl ?_ | refine jK ?_ | refine jD ?_ | refine jE ?_)
      refine ⟨I64.mk (by omega), ?_⟩
      repeat (first | refine jC ?_ | refine jN ?_ | refine jS ?_ | refine jR ?_ | refine jT ?_ | refine jB ?_ | refine jX rfl ?_ | refine jY rfl ?_ | refine jK ?_ | refine jD ?_ | refine jE ?_)
      have e : (spl (s.data.toList.take (k + 1)) []).length = out.length + 1 := by rw [hst]; simp
      refine ⟨(k + 1, ad3, cap3, A3), ⟨hlt, hx.trans ((hx2.mono hx.size).trans hx3), ?_, ?_, ?_⟩, by show s.size - (k + 1) < s.size - k; omega, ⟨rfl, rfl, rfl, rfl, ?_, trivial⟩, trivial, trivial, Ext.refl _⟩
      · show Buf _ A3 ad3 (spl (s.data.toList.take (k + 1)) []).length cap3 1 (strs (spl (s.data.toList.take (k + 1)) []))
        rw [e, hst, strs, List.map_append]
        exact hb3
      · show (spl (s.data.toList.take (k + 1)) []).length ≤ k + 1
        rw [e]; omega
      · show ∀ y ∈ spl (s.data.toList.take (k + 1)) [], y.size ≤ k + 1
        rw [hst]
        intro y hy
        rcases List.mem_append.1 hy with hy | hy
        · have := hsz y hy; omega
        · simp at hy; subst hy; exact Nat.zero_le _
      · show some _ = some _
        rw [e]
    have h2 := of_decide_eq_false h2
    have hc : s[k] ≠ 47 := fun e => h2 (by rw [e]; rfl)
    repeat (first | refine jC ?_ | refine jN ?_ | refine jS ?_ | refine jR ?_ | refine jT ?_ | refine jB ?_ | refine jX rfl ?_ | refine jY rfl ?_ | refine jK ?_ | refine jD ?_ | refine jE ?_)
    refine Br.intro (fun h3 => ?_) (fun h3 => ?_)
    · have h3 : 0 < out.length := by have := of_decide_eq_true h3; omega
      obtain ⟨n, hn⟩ : ∃ n, out.length = n + 1 := ⟨out.length - 1, by omega⟩
      have hu : out[n]? = some out[n] := List.getElem?_eq_getElem (by omega)
      have hxs := hsz _ (List.getElem_mem (show n < out.length by omega))
      generalize out[n] = x at hu hxs
      have hadd := addB_last hc hn hu
      cases ad with
      | none => have := hb.nil rfl; have := hb.le; omega
      | some p =>
      obtain ⟨g, rfl, hgl, hgw, hgm, hgc⟩ := hb.at_ p rfl
      have hm1 : MutN wk g (0 + n) 1 := hgm.sub (by have := hb.le; omega)
      have hcut : (x ++ s.extract k (k + 1) : ByteArray) = ⟨(x.data.toList ++ [s[k]]).toArray⟩ := by
        ext1
        apply Array.ext'
        simp [ByteArray.data_append]
        rw [List.take_add_one, List.drop_eq_getElem_cons (by simpa using hlt)] 
        simp
        rfl
      repeat (first | refine jC ?_ | refine jN ?_ | refine jS ?_ | refine jR ?_ | refine jT ?_ | refine jB ?_ | refine jX rfl ?_ | refine jY rfl ?_ | refine jK ?_ | refine jD ?_ | refine jE ?_)
      refine WpC.drawE (.st 0 (.st 1 (.st 2 (.st 3 (.st 4 (.st 5 (.st 6 (.st 7 (.st 8 (.st 9 (.st 10 (.st 11 (.st 12 (.st 13 (.st 14 (.st 15 (.st 16 (.ef 17 .done .done)))))))))))))))))) [(0, .mv), (1, .mv), (4, .mv), (5, .mv), (10, .mv), (11, .mv), (12, .mv), (17, .br)] (by kernel_rfl) ?_
      repeat (first | refine uM ?_ | refine uR ?_ | refine uE ?_ | refine uB ?_ | refine uA ?_ | refine uD ?_ | refine jC ?_ | refine jN ?_ | refine jS ?_ | refine jR ?_ | refine jT ?_ | refine jB ?_ | refine jX rfl ?_ | refine jY rfl ?_ | refine jK ?_ | refine jD ?_ | refine jE ?_)
      refine ⟨I64.mk (by omega), ?_⟩
      repeat (first | refine uM ?_ | refine uR ?_ | refine uE ?_ | refine uB ?_ | refine uA ?_ | refine uD ?_ | refine jC ?_ | refine jN ?_ | refine jS ?_ | refine jR ?_ | refine jT ?_ | refine jB ?_ | refine jX rfl ?_ | refine jY rfl ?_ | refine jK ?_ | refine jD ?_ | refine jE ?_)
      refine ⟨I64.mk (by omega), ?_⟩
      repeat (first | refine uM ?_ | refine uR ?_ | refine uE ?_ | refine uB ?_ | refine uA ?_ | refine uD ?_ | refine jC ?_ | refine jN ?_ | refine jS ?_ | refine jR ?_ | refine jT ?_ | refine jB ?_ | refine jX rfl ?_ | refine jY rfl ?_ | refine jK ?_ | refine jD ?_ | refine jE ?_)
      refine Ix.mk n (by omega) (by omega) ?_
      repeat (first | refine uM ?_ | refine uR ?_ | refine uE ?_ | refine uB ?_ | refine uA ?_ | refine uD ?_ | refine jC ?_ | refine jN ?_ | refine jS ?_ | refine jR ?_ | refine jT ?_ | refine jB ?_ | refine jX rfl ?_ | refine jY rfl ?_ | refine jK ?_ | refine jD ?_ | refine jE ?_)
      refine Ld.mk (hgc.out n _ (strs_get hu)) ?_
      repeat (first | refine uM ?_ | refine uR ?_ | refine uE ?_ | refine uB ?_ | refine uA ?_ | refine uD ?_ | refine jC ?_ | refine jN ?_ | refine jS ?_ | refine jR ?_ | refine jT ?_ | refine jB ?_ | refine jX rfl ?_ | refine jY rfl ?_ | refine jK ?_ | refine jD ?_ | refine jE ?_)
      refine ⟨I64.mk (by omega), ?_⟩
      repeat (first | refine uM ?_ | refine uR ?_ | refine uE ?_ | refine uB ?_ | refine uA ?_ | refine uD ?_ | refine jC ?_ | refine jN ?_ | refine jS ?_ | refine jR ?_ | refine jT ?_ | refine jB ?_ | refine jX rfl ?_ | refine jY rfl ?_ | refine jK ?_ | refine jD ?_ | refine jE ?_)
      refine ⟨k, k + 1, rfl, by omega, by omega, by omega, ?_⟩
      repeat (first | refine uM ?_ | refine uR ?_ | refine uE ?_ | refine uB ?_ | refine uA ?_ | refine uD ?_ | refine jC ?_ | refine jN ?_ | refine jS ?_ | refine jR ?_ | refine jT ?_ | refine jB ?_ | refine jX rfl ?_ | refine jY rfl ?_ | refine jK ?_ | refine jD ?_ | refine jE ?_)
      refine ⟨by simp; omega, ?_⟩
      repeat (first | refine uM ?_ | refine uR ?_ | refine uE ?_ | refine uB ?_ | refine uA ?_ | refine uD ?_ | refine jC ?_ | refine jN ?_ | refine jS ?_ | refine jR ?_ | refine jT ?_ | refine jB ?_ | refine jX rfl ?_ | refine jY rfl ?_ | refine jK ?_ | refine jD ?_ | refine jE ?_)
      refine Ix.mk n (by omega) (by omega) ?_
      repeat (first | refine uM ?_ | refine uR ?_ | refine uE ?_ | refine uB ?_ | refine uA ?_ | refine uD ?_ | refine jC ?_ | refine jN ?_ | refine jS ?_ | refine jR ?_ | refine jT ?_ | refine jB ?_ | refine jX rfl ?_ | refine jY rfl ?_ | refine jK ?_ | refine jD ?_ | refine jE ?_)
      refine ⟨hm1, trivial, rfl, by simp [Value.oneCell'], ?_⟩
      repeat (first | refine uM ?_ | refine uR ?_ | refine uE ?_ | refine uB ?_ | refine uA ?_ | refine uD ?_ | refine jC ?_ | refine jN ?_ | refine jS ?_ | refine jR ?_ | refine jT ?_ | refine jB ?_ | refine jX rfl ?_ | refine jY rfl ?_ | refine jK ?_ | refine jD ?_ | refine jE ?_)
      refine ⟨I64.mk (by omega), ?_⟩
      repeat (first | refine jC ?_ | refine jN ?_ | refine jS ?_ | refine jR ?_ | refine jT ?_ | refine jB ?_ | refine jX rfl ?_ | refine jY rfl ?_ | refine jK ?_ | refine jD ?_ | refine jE ?_)
      rw [hadd] at hst
      have e : (spl (s.data.toList.take (k + 1)) []).length = out.length := by rw [hst]; simp
      refine ⟨(k + 1, some ⟨g, 0, none⟩, cap, setL wk g (0 + n) [.string (x ++ s.extract k (k + 1))]), ⟨hlt, below_setL hx hgl _ _, ?_, ?_, ?_⟩, by show s.size - (k + 1) < s.size - k; omega, ⟨rfl, rfl, rfl, rfl, ?_, trivial⟩, trivial, trivial, Ext.refl _⟩
      · show Buf _ _ _ (spl (s.data.toList.take (k + 1)) []).length cap 1 (strs (spl (s.data.toList.take (k + 1)) []))
        rw [e, hst]
        refine ⟨hb.le, hb.max, by simp, fun h => (by cases h), fun p hp => ?_⟩
        cases hp
        refine ⟨g, rfl, hgl, by rw [setL_size]; exact hgw, MutN.setL _ _ _ hgm, ?_⟩
        rw [hcut, strs, List.map_set]
        exact hgc.setAt hm1 (by simp; omega)
      · show (spl (s.data.toList.take (k + 1)) []).length ≤ k + 1
        rw [e]; omega
      · show ∀ y ∈ spl (s.data.toList.take (k + 1)) [], y.size ≤ k + 1
        rw [hst]
        exact set_last_size hsz (by show (x.data.toList ++ [s[k]]).length ≤ k + 1; simp; omega)
      · show some _ = some _
        rw [e]
    · have h3 : out = [] := List.eq_nil_of_length_eq_zero (by have := of_decide_eq_false h3; omega)
      subst h3
      rw [addB_none _ hc] at hst
      repeat (first | refine jC ?_ | refine jN ?_ | refine jS ?_ | refine jR ?_ | refine jT ?_ | refine jB ?_ | refine jX rfl ?_ | refine jY rfl ?_ | refine jK ?_ | refine jD ?_ | refine jE ?_)
      refine ⟨I64.mk (by omega), ?_⟩
      repeat (first | refine jC ?_ | refine jN ?_ | refine jS ?_ | refine jR ?_ | refine jT ?_ | refine jB ?_ | refine jX rfl ?_ | refine jY rfl ?_ | refine jK ?_ | refine jD ?_ | refine jE ?_)
      refine ⟨(k + 1, ad, cap, wk), ⟨hlt, hx, ?_, ?_, ?_⟩, by show s.size - (k + 1) < s.size - k; omega, ⟨rfl, rfl, rfl, rfl, ?_, trivial⟩, trivial, trivial, Ext.refl _⟩
      · show Buf _ _ _ (spl (s.data.toList.take (k + 1)) []).length cap 1 (strs (spl (s.data.toList.take (k + 1)) []))
        rw [hst]; exact hb
      · show (spl (s.data.toList.take (k + 1)) []).length ≤ k + 1
        rw [hst]; exact Nat.zero_le _
      · show ∀ y ∈ spl (s.data.toList.take (k + 1)) [], y.size ≤ k + 1
        rw [hst]; exact fun y hy => absurd hy (by simp)
      · show some _ = some _
        rw [hst]
  · have hke : k = s.size := by have := of_decide_eq_false h; omega
    subst hke
    rw [spl_all] at hb hlk hsz ⊢
    generalize hout : spl s.data.toList [] = out at hb hlk hsz ⊢
    have hR := OwnS.of_buf hb
    repeat (first | refine jC ?_ | refine jN ?_ | refine jS ?_ | refine jR ?_ | refine jT ?_ | refine jB ?_ | refine jX rfl ?_ | refine jY rfl ?_ | refine jK ?_ | refine jD ?_ | refine jE ?_)
    refine Br.intro (fun h2 => ?_) (fun h2 => ?_)
    · rw [toList_beq] at h2
      have h2 : s = ⟨#[]⟩ := of_decide_eq_true h2
      have hsp : partsOf s = none := by rw [h2]; exact partsOf_empty
      repeat (first | refine jC ?_ | refine jN ?_ | refine jS ?_ | refine jR ?_ | refine jT ?_ | refine jB ?_ | refine jX rfl ?_ | refine jY rfl ?_ | refine jK ?_ | refine jD ?_ | refine jE ?_)
      refine Made.mk fun g2 w2 hx2 hg21 hg22 hg23 hne => ?_
      repeat (first | refine jC ?_ | refine jN ?_ | refine jS ?_ | refine jR ?_ | refine jT ?_ | refine jB ?_ | refine jX rfl ?_ | refine jY rfl ?_ | refine jK ?_ | refine jD ?_ | refine jE ?_)
      exact EndV.mk fun w' hw' => ⟨_, rfl, ⟨_, by rw [hsp]; rfl, by rw [hsp]; exact OwnS.nil _ _ _⟩, (hx.trans (hx2.mono hx.size)).trans (hw'.mono (by have := hx.size; have := hx2.size; omega))⟩
    rw [toList_beq] at h2
    have hne : s ≠ ⟨#[]⟩ := of_decide_eq_false h2
    have hsp : partsOf s = if joinB out = s then some out else none := partsOf_try _ hne fun l hl e => by
      have hl0 : l ≠ [] := fun e2 => by
        subst e2
        rw [(jn_nil_path hl).2 rfl] at e
        exact hne1 e.symm
      rw [← hout, ← e]
      exact hl.spl hl0
    repeat (first | refine jC ?_ | refine jN ?_ | refine jS ?_ | refine jR ?_ | refine jT ?_ | refine jB ?_ | refine jX rfl ?_ | refine jY rfl ?_ | refine jK ?_ | refine jD ?_ | refine jE ?_)
    refine CallV.val (fun w' hw _ => sJoinPath_vc out _ w' (hR.row.ext hw) fun y hy => by have := hsz y hy; omega) ?_
    repeat (first | refine jC ?_ | refine jN ?_ | refine jS ?_ | refine jR ?_ | refine jT ?_ | refine jB ?_ | refine jX rfl ?_ | refine jY rfl ?_ | refine jK ?_ | refine jD ?_ | refine jE ?_)
    refine Br.intro (fun h3 => ?_) (fun h3 => ?_)
    · rw [toList_beq] at h3
      have h3 : ¬ joinB out = s := by simpa using h3
      rw [if_neg h3] at hsp
      repeat (first | refine jC ?_ | refine jN ?_ | refine jS ?_ | refine jR ?_ | refine jT ?_ | refine jB ?_ | refine jX rfl ?_ | refine jY rfl ?_ | refine jK ?_ | refine jD ?_ | refine jE ?_)
      refine Made.mk fun g2 w2 hx2 hg21 hg22 hg23 hne => ?_
      repeat (first | refine jC ?_ | refine jN ?_ | refine jS ?_ | refine jR ?_ | refine jT ?_ | refine jB ?_ | refine jX rfl ?_ | refine jY rfl ?_ | refine jK ?_ | refine jD ?_ | refine jE ?_)
      exact EndV.mk fun w' hw' => ⟨_, rfl, ⟨_, by rw [hsp]; rfl, by rw [hsp]; exact OwnS.nil _ _ _⟩, (hx.trans (hx2.mono hx.size)).trans (hw'.mono (by have := hx.size; have := hx2.size; omega))⟩
    · rw [toList_beq] at h3
      have h3 : joinB out = s := by simpa using h3
      rw [if_pos h3] at hsp
      repeat (first | refine jC ?_ | refine jN ?_ | refine jS ?_ | refine jR ?_ | refine jT ?_ | refine jB ?_ | refine jX rfl ?_ | refine jY rfl ?_ | refine jK ?_ | refine jD ?_ | refine jE ?_)
      exact EndV.mk fun w' hw' => ⟨_, rfl, ⟨_, by rw [hsp]; rfl, by rw [hsp]; exact hR.ext hw'⟩, hx.trans (hw'.mono hx.size)⟩
/-- The path above a path, and its last name. -/
noncomputable def aboveOf (s : ByteArray) : Option (ByteArray × ByteArray) := match partsOf s with
  | none => none
  | some l => if l.length = 0 then none else some (joinB (l.take (l.length - 1)), l.getD (l.length - 1) ⟨#[]⟩)
noncomputable def aboveV (s : ByteArray) : Value := match aboveOf s with
  | none => .tuple #[.string ⟨#[]⟩, .string ⟨#[]⟩, .bool false]
  | some x => .tuple #[.string x.1, .string x.2, .bool true]
theorem parts_size {s : ByteArray} {l : List ByteArray} (h : partsOf s = some l) : ∀ x ∈ l, x.size ≤ 8 := fun x hx => by
  have := (name_len ((partsOf_iff.1 h).1.2 x hx)).2
  simpa using this
theorem getD_at {l : List ByteArray} {k : Nat} (h : k < l.length) : (strs l)[k]? = some (.string (l.getD k ⟨#[]⟩)) := by
  simp [List.getD_eq_getElem?_getD, h]
theorem iAboveOf_vc (s : ByteArray) (w : World) (hs : s.size ≤ 1048600) (hM : ML w) : Gives Tryz.prog 50 #[.string s] w (aboveV s) := by
  have join_vc := iJoinPath_vc
  refine calls_of cx_ok Tryz.func50 Tryz.ntmps50 Tryz.results50 rfl rfl ?_
  repeat (first | refine jC ?_ | refine jN ?_ | refine jS ?_ | refine jR ?_ | refine jT ?_ | refine jB ?_ | refine jX rfl ?_ | refine jY rfl ?_ | refine jK ?_ | refine jD ?_ | refine jE ?_)
  refine CallV.mem _ (fun w' hw _ => iPathParts_vc s w' hs (hM.ext hw)) (fun x1 wa wb hx1 hx2 _ ⟨u, e1, hO⟩ => ?_)
  subst e1
  cases hp : partsOf s with
  | none =>
    have hv : aboveV s = .tuple #[.string ⟨#[]⟩, .string ⟨#[]⟩, .bool false] := by rw [aboveV, aboveOf, hp]
    rw [hv]
    rw [hp] at hO
    obtain ⟨ad, cap, g, e, _⟩ := hO
    simp only [Option.getD_none] at e
    subst e
    repeat (first | refine jC ?_ | refine jN ?_ | refine jS ?_ | refine jR ?_ | refine jT ?_ | refine jB ?_ | refine jX rfl ?_ | refine jY rfl ?_ | refine jK ?_ | refine jD ?_ | refine jE ?_)
    refine ⟨I64.mk (by simp), ?_⟩
    repeat (first | refine jC ?_ | refine jN ?_ | refine jS ?_ | refine jR ?_ | refine jT ?_ | refine jB ?_ | refine jX rfl ?_ | refine jY rfl ?_ | refine jK ?_ | refine jD ?_ | refine jE ?_)
    exact EndV.val rfl (hx1.trans hx2)
  | some l =>
    rw [hp] at hO
    have hl6 := (partsOf_iff.1 hp).1.1
    have hsz := parts_size hp
    obtain ⟨ad, cap, g, e, hR, _, _⟩ := hO
    simp only [Option.getD_some] at e hR
    subst e
    obtain ⟨_, _, e2, hlc, hcm, hat⟩ := id hR
    rw [List.length_map] at e2 hlc hat
    cases e2
    repeat (first | refine jC ?_ | refine jN ?_ | refine jS ?_ | refine jR ?_ | refine jT ?_ | refine jB ?_ | refine jX rfl ?_ | refine jY rfl ?_ | refine jK ?_ | refine jD ?_ | refine jE ?_)
    refine ⟨I64.mk (by omega), ?_⟩
    repeat (first | refine jC ?_ | refine jN ?_ | refine jS ?_ | refine jR ?_ | refine jT ?_ | refine jB ?_ | refine jX rfl ?_ | refine jY rfl ?_ | refine jK ?_ | refine jD ?_ | refine jE ?_)
    by_cases h0 : l.length = 0
    · have hv : aboveV s = .tuple #[.string ⟨#[]⟩, .string ⟨#[]⟩, .bool false] := by rw [aboveV, aboveOf, hp]; simp only; rw [if_pos h0]
      rw [hv]
      refine Br.yes (decide_eq_true (by omega)) ?_
      repeat (first | refine jC ?_ | refine jN ?_ | refine jS ?_ | refine jR ?_ | refine jT ?_ | refine jB ?_ | refine jX rfl ?_ | refine jY rfl ?_ | refine jK ?_ | refine jD ?_ | refine jE ?_)
      exact EndV.val rfl (hx1.trans hx2)
    · have hv : aboveV s = .tuple #[.string (joinB (l.take (l.length - 1))), .string (l.getD (l.length - 1) ⟨#[]⟩), .bool true] := by rw [aboveV, aboveOf, hp]; simp only; rw [if_neg h0]
      rw [hv]
      refine Br.no (decide_eq_false (by omega)) ?_
      repeat (first | refine jC ?_ | refine jN ?_ | refine jS ?_ | refine jR ?_ | refine jT ?_ | refine jB ?_ | refine jX rfl ?_ | refine jY rfl ?_ | refine jK ?_ | refine jD ?_ | refine jE ?_)
      obtain ⟨b, o, e3, hc⟩ := hat (by omega)
      subst e3
      refine WpC.draw (by kernel_rfl) ?_
      repeat (first | refine jC ?_ | refine jN ?_ | refine jS ?_ | refine jR ?_ | refine jT ?_ | refine jB ?_ | refine jX rfl ?_ | refine jY rfl ?_ | refine jK ?_ | refine jD ?_ | refine jE ?_)
      refine ⟨l.length - 1, by omega, by omega, ?_⟩
      repeat (first | refine jC ?_ | refine jN ?_ | refine jS ?_ | refine jR ?_ | refine jT ?_ | refine jB ?_ | refine jX rfl ?_ | refine jY rfl ?_ | refine jK ?_ | refine jD ?_ | refine jE ?_)
      refine QCallV.val (fun w' hw _ => join_vc (l.take (l.length - 1)) _ w' (by
        have := row1_take hR (l.length - 1) (by rw [List.length_map]; omega)
        rw [← List.map_take] at this
        exact this.ext hw) fun x hx => by have := hsz x (List.mem_of_mem_take hx); omega) ?_
      repeat (first | refine jC ?_ | refine jN ?_ | refine jS ?_ | refine jR ?_ | refine jT ?_ | refine jB ?_ | refine jX rfl ?_ | refine jY rfl ?_ | refine jK ?_ | refine jD ?_ | refine jE ?_)
      refine Ix.mk (l.length - 1) (by omega) (by omega) ?_
      repeat (first | refine jC ?_ | refine jN ?_ | refine jS ?_ | refine jR ?_ | refine jT ?_ | refine jB ?_ | refine jX rfl ?_ | refine jY rfl ?_ | refine jK ?_ | refine jD ?_ | refine jE ?_)
      refine Ld.mk (hc.out (l.length - 1) _ (getD_at (by omega))) ?_
      repeat (first | refine jC ?_ | refine jN ?_ | refine jS ?_ | refine jR ?_ | refine jT ?_ | refine jB ?_ | refine jX rfl ?_ | refine jY rfl ?_ | refine jK ?_ | refine jD ?_ | refine jE ?_)
      exact EndV.val rfl (hx1.trans hx2)
theorem sAboveOf_vc (s : ByteArray) (w : World) (hs : s.size ≤ 1048600) : Gives Tryz.prog 29 #[.string s] w (aboveV s) := by
  have join_vc := sJoinPath_vc
  refine calls_of cx_ok Tryz.func29 Tryz.ntmps29 Tryz.results29 rfl rfl ?_
  repeat (first | refine jC ?_ | refine jN ?_ | refine jS ?_ | refine jR ?_ | refine jT ?_ | refine jB ?_ | refine jX rfl ?_ | refine jY rfl ?_ | refine jK ?_ | refine jD ?_ | refine jE ?_)
  refine CallV.mem _ (fun w' hw _ => sPathParts_vc s w' hs) (fun x1 wa wb hx1 hx2 _ ⟨u, e1, hO⟩ => ?_)
  subst e1
  cases hp : partsOf s with
  | none =>
    have hv : aboveV s = .tuple #[.string ⟨#[]⟩, .string ⟨#[]⟩, .bool false] := by rw [aboveV, aboveOf, hp]
    rw [hv]
    rw [hp] at hO
    repeat (first | refine jC ?_ | refine jN ?_ | refine jS ?_ | refine jR ?_ | refine jT ?_ | refine jB ?_ | refine jX rfl ?_ | refine jY rfl ?_ | refine jK ?_ | refine jD ?_ | refine jE ?_)
    exact EndV.val rfl (hx1.trans hx2)
  | some l =>
    rw [hp] at hO
    have hl6 := (partsOf_iff.1 hp).1.1
    have hsz := parts_size hp
    obtain ⟨ad, cap, g, e, hR, _, _⟩ := hO
    simp only [Option.getD_some] at e hR
    subst e
    obtain ⟨_, _, e2, hlc, hcm, hat⟩ := id hR
    rw [List.length_map] at e2 hlc hat
    cases e2
    repeat (first | refine jC ?_ | refine jN ?_ | refine jS ?_ | refine jR ?_ | refine jT ?_ | refine jB ?_ | refine jX rfl ?_ | refine jY rfl ?_ | refine jK ?_ | refine jD ?_ | refine jE ?_)
    by_cases h0 : l.length = 0
    · have hv : aboveV s = .tuple #[.string ⟨#[]⟩, .string ⟨#[]⟩, .bool false] := by rw [aboveV, aboveOf, hp]; simp only; rw [if_pos h0]
      rw [hv]
      refine Br.yes (decide_eq_true (by omega)) ?_
      repeat (first | refine jC ?_ | refine jN ?_ | refine jS ?_ | refine jR ?_ | refine jT ?_ | refine jB ?_ | refine jX rfl ?_ | refine jY rfl ?_ | refine jK ?_ | refine jD ?_ | refine jE ?_)
      exact EndV.val rfl (hx1.trans hx2)
    · have hv : aboveV s = .tuple #[.string (joinB (l.take (l.length - 1))), .string (l.getD (l.length - 1) ⟨#[]⟩), .bool true] := by rw [aboveV, aboveOf, hp]; simp only; rw [if_neg h0]
      rw [hv]
      refine Br.no (decide_eq_false (by omega)) ?_
      repeat (first | refine jC ?_ | refine jN ?_ | refine jS ?_ | refine jR ?_ | refine jT ?_ | refine jB ?_ | refine jX rfl ?_ | refine jY rfl ?_ | refine jK ?_ | refine jD ?_ | refine jE ?_)
      refine ⟨I64.mk (by omega), ?_⟩
      repeat (first | refine jC ?_ | refine jN ?_ | refine jS ?_ | refine jR ?_ | refine jT ?_ | refine jB ?_ | refine jX rfl ?_ | refine jY rfl ?_ | refine jK ?_ | refine jD ?_ | refine jE ?_)
      obtain ⟨b, o, e3, hc⟩ := hat (by omega)
      subst e3
      refine WpC.draw (by kernel_rfl) ?_
      repeat (first | refine jC ?_ | refine jN ?_ | refine jS ?_ | refine jR ?_ | refine jT ?_ | refine jB ?_ | refine jX rfl ?_ | refine jY rfl ?_ | refine jK ?_ | refine jD ?_ | refine jE ?_)
      refine ⟨l.length - 1, by omega, by omega, ?_⟩
      repeat (first | refine jC ?_ | refine jN ?_ | refine jS ?_ | refine jR ?_ | refine jT ?_ | refine jB ?_ | refine jX rfl ?_ | refine jY rfl ?_ | refine jK ?_ | refine jD ?_ | refine jE ?_)
      refine QCallV.val (fun w' hw _ => join_vc (l.take (l.length - 1)) _ w' (by
        have := row1_take hR (l.length - 1) (by rw [List.length_map]; omega)
        rw [← List.map_take] at this
        exact this.ext hw) fun x hx => by have := hsz x (List.mem_of_mem_take hx); omega) ?_
      repeat (first | refine jC ?_ | refine jN ?_ | refine jS ?_ | refine jR ?_ | refine jT ?_ | refine jB ?_ | refine jX rfl ?_ | refine jY rfl ?_ | refine jK ?_ | refine jD ?_ | refine jE ?_)
      refine Ix.mk (l.length - 1) (by omega) (by omega) ?_
      repeat (first | refine jC ?_ | refine jN ?_ | refine jS ?_ | refine jR ?_ | refine jT ?_ | refine jB ?_ | refine jX rfl ?_ | refine jY rfl ?_ | refine jK ?_ | refine jD ?_ | refine jE ?_)
      refine Ld.mk (hc.out (l.length - 1) _ (getD_at (by omega))) ?_
      repeat (first | refine jC ?_ | refine jN ?_ | refine jS ?_ | refine jR ?_ | refine jT ?_ | refine jB ?_ | refine jX rfl ?_ | refine jY rfl ?_ | refine jK ?_ | refine jD ?_ | refine jE ?_)
      exact EndV.val rfl (hx1.trans hx2)
end Go.Proofs.YtbnjjpgacemicaaGreatDoor
