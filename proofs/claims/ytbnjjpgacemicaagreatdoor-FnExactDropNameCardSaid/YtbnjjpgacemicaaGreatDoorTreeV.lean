/-
  Contracts: nodes and trees that are valid.
  Conditions: none but bounds.
-/
import Derived.Test.YtbnjjpgacemicaaGreatDoorTreeP
namespace Go.Proofs.YtbnjjpgacemicaaGreatDoor
open Go.RowKit Vc
attribute [local irreducible] WpC WpL WpD WpE WpB CallV QCallV Made AppV Ld LdN Ix EndV I64 MutN Mut CellsAt

theorem empty_text (s : ByteArray) : (s.toList == (⟨#[]⟩ : ByteArray).toList) = decide (s.size = 0) := by
  rw [ByteArray.toList_eq, ByteArray.toList_eq]
  rw [Bool.eq_iff_iff]
  simp only [beq_iff_eq, decide_eq_true_eq]
  constructor
  · intro h
    have := congrArg List.length h
    simpa using this
  · intro h
    have h : s.data.size = 0 := h
    rw [Array.size_eq_zero_iff.1 h]

theorem okB_file {n : Nd} (h1 : inR n.owner 0 99 = true) (h2 : inR n.group 0 7 = true) (h3 : inR n.mode 0 1023 = true) (hf : n.folder = false) (h4 : n.text.size ≤ 40) (h5 : n.names.length = 0) (h6 : n.kids.length = 0) : n.Ok :=
  ⟨h1, h2, h3, by omega, fun _ => h5, fun h => by rw [hf] at h; (cases h), h4, fun i s h => by rw [List.eq_nil_of_length_eq_zero h5] at h; simp at h, fun i s t h => by rw [List.eq_nil_of_length_eq_zero h5] at h; simp at h⟩
set_option maxHeartbeats 1000000 in
theorem iNodeValid_vc (n : Nd) (nv kv : Value) (w : World) (hN : NdIn w n nv kv) (hwf : n.wf) : Gives Tryz.prog 92 #[n.val nv kv] w (.bool n.okB) := by
  have hnl : n.names.length ≤ 9223372036854775807 := by obtain ⟨_, cap, _, h2, h3, _⟩ := hN.1; simp at h2; omega
  obtain ⟨kad, kcap, rfl, hka⟩ := kids_open hN
  obtain ⟨nad, ncap, rfl, hna⟩ := names_open hN
  have hns : ∀ s ∈ n.names, s.size ≤ maxLen := fun s hs => by have := hwf.2.2.2.2.1 s hs; unfold maxLen; omega
  refine calls_of cx_ok Tryz.func92 Tryz.ntmps92 Tryz.results92 rfl rfl ?_
  repeat (first | refine jC ?_ | refine jN ?_ | refine jS ?_ | refine jR ?_ | refine jT ?_ | refine jB ?_ | refine jX rfl ?_ | refine jY rfl ?_ | refine jK ?_ | refine jD ?_ | refine jE ?_)
  intro b hb
  repeat (first | refine jC ?_ | refine jN ?_ | refine jS ?_ | refine jR ?_ | refine jT ?_ | refine jB ?_ | refine jX rfl ?_ | refine jY rfl ?_ | refine jK ?_ | refine jD ?_ | refine jE ?_)
  refine CallV.val (fun w' _ _ => (isUser_any n.owner w').of_same) ?_
  repeat (first | refine jC ?_ | refine jN ?_ | refine jS ?_ | refine jR ?_ | refine jT ?_ | refine jB ?_ | refine jX rfl ?_ | refine jY rfl ?_ | refine jK ?_ | refine jD ?_ | refine jE ?_)
  refine Br.intro (fun h1 => ?_) (fun h1 => ?_)
  · repeat (first | refine jC ?_ | refine jN ?_ | refine jS ?_ | refine jR ?_ | refine jT ?_ | refine jB ?_ | refine jX rfl ?_ | refine jY rfl ?_ | refine jK ?_ | refine jD ?_ | refine jE ?_)
    exact EndV.val (by rw [Nd.okB_no fun h => by have := h.own; simp [this] at h1]) (Ext.refl _)
  have h1 : inR n.owner 0 99 = true := by simpa using h1
  repeat (first | refine jC ?_ | refine jN ?_ | refine jS ?_ | refine jR ?_ | refine jT ?_ | refine jB ?_ | refine jX rfl ?_ | refine jY rfl ?_ | refine jK ?_ | refine jD ?_ | refine jE ?_)
  refine CallV.val (fun w' _ _ => (isGroup_any n.group w').of_same) ?_
  repeat (first | refine jC ?_ | refine jN ?_ | refine jS ?_ | refine jR ?_ | refine jT ?_ | refine jB ?_ | refine jX rfl ?_ | refine jY rfl ?_ | refine jK ?_ | refine jD ?_ | refine jE ?_)
  refine Br.intro (fun h2 => ?_) (fun h2 => ?_)
  · repeat (first | refine jC ?_ | refine jN ?_ | refine jS ?_ | refine jR ?_ | refine jT ?_ | refine jB ?_ | refine jX rfl ?_ | refine jY rfl ?_ | refine jK ?_ | refine jD ?_ | refine jE ?_)
    exact EndV.val (by rw [Nd.okB_no fun h => by have := h.grp; simp [this] at h2]) (Ext.refl _)
  have h2 : inR n.group 0 7 = true := by simpa using h2
  repeat (first | refine jC ?_ | refine jN ?_ | refine jS ?_ | refine jR ?_ | refine jT ?_ | refine jB ?_ | refine jX rfl ?_ | refine jY rfl ?_ | refine jK ?_ | refine jD ?_ | refine jE ?_)
  refine CallV.val (fun w' _ _ => (isMode_any n.mode w').of_same) ?_
  repeat (first | refine jC ?_ | refine jN ?_ | refine jS ?_ | refine jR ?_ | refine jT ?_ | refine jB ?_ | refine jX rfl ?_ | refine jY rfl ?_ | refine jK ?_ | refine jD ?_ | refine jE ?_)
  refine Br.intro (fun h3 => ?_) (fun h3 => ?_)
  · repeat (first | refine jC ?_ | refine jN ?_ | refine jS ?_ | refine jR ?_ | refine jT ?_ | refine jB ?_ | refine jX rfl ?_ | refine jY rfl ?_ | refine jK ?_ | refine jD ?_ | refine jE ?_)
    exact EndV.val (by rw [Nd.okB_no fun h => by have := h.mod; simp [this] at h3]) (Ext.refl _)
  have h3 : inR n.mode 0 1023 = true := by simpa using h3
  repeat (first | refine jC ?_ | refine jN ?_ | refine jS ?_ | refine jR ?_ | refine jT ?_ | refine jB ?_ | refine jX rfl ?_ | refine jY rfl ?_ | refine jK ?_ | refine jD ?_ | refine jE ?_)
  refine Br.intro (fun hf => ?_) (fun hf => ?_)
  · have hf : n.folder = false := by simpa using hf
    repeat (first | refine jC ?_ | refine jN ?_ | refine jS ?_ | refine jR ?_ | refine jT ?_ | refine jB ?_ | refine jX rfl ?_ | refine jY rfl ?_ | refine jK ?_ | refine jD ?_ | refine jE ?_)
    refine Br.intro (fun h4 => ?_) (fun h4 => ?_)
    · have h4 := of_decide_eq_true h4
      repeat (first | refine jC ?_ | refine jN ?_ | refine jS ?_ | refine jR ?_ | refine jT ?_ | refine jB ?_ | refine jX rfl ?_ | refine jY rfl ?_ | refine jK ?_ | refine jD ?_ | refine jE ?_)
      refine Br.intro (fun h5 => ?_) (fun h5 => ?_)
      · have h5 := of_decide_eq_true h5
        repeat (first | refine jC ?_ | refine jN ?_ | refine jS ?_ | refine jR ?_ | refine jT ?_ | refine jB ?_ | refine jX rfl ?_ | refine jY rfl ?_ | refine jK ?_ | refine jD ?_ | refine jE ?_)
        refine EndV.val ?_ (Ext.refl _)
        by_cases h6 : n.kids.length = 0
        · rw [Nd.okB_yes (okB_file h1 h2 h3 hf (by omega) (by omega) h6)]; exact congrArg Value.bool (decide_eq_true (by omega))
        · rw [Nd.okB_no fun h => h6 (by have := h.len; omega)]; exact congrArg Value.bool (decide_eq_false (by omega))
      · have h5 := of_decide_eq_false h5
        repeat (first | refine jC ?_ | refine jN ?_ | refine jS ?_ | refine jR ?_ | refine jT ?_ | refine jB ?_ | refine jX rfl ?_ | refine jY rfl ?_ | refine jK ?_ | refine jD ?_ | refine jE ?_)
        exact EndV.val (by rw [Nd.okB_no fun h => h5 (by have := h.file hf; omega)]) (Ext.refl _)
    · have h4 := of_decide_eq_false h4
      repeat (first | refine jC ?_ | refine jN ?_ | refine jS ?_ | refine jR ?_ | refine jT ?_ | refine jB ?_ | refine jX rfl ?_ | refine jY rfl ?_ | refine jK ?_ | refine jD ?_ | refine jE ?_)
      exact EndV.val (by rw [Nd.okB_no fun h => h4 (by have := h.txt; omega)]) (Ext.refl _)
  have hf : n.folder = true := by simpa using hf
  repeat (first | refine jC ?_ | refine jN ?_ | refine jS ?_ | refine jR ?_ | refine jT ?_ | refine jB ?_ | refine jX rfl ?_ | refine jY rfl ?_ | refine jK ?_ | refine jD ?_ | refine jE ?_)
  refine WpC.loop (α := Nat) (fun x => ⟨[(1, .own 0 0), (41, .v (.slice nad n.names.length ncap)), (42, .v (.int .i64 (n.names.length : Int))), (43, .v (.int .i64 (x : Int)))], [⟨b, n.cells (.slice nad n.names.length ncap) (.slice kad n.kids.length kcap), 52⟩], w⟩)
    (fun x => x ≤ n.names.length ∧ (∀ (i : Nat) (s : ByteArray), i < x → n.names[i]? = some s → nameOk s.data.toList = true) ∧ ∀ (i : Nat) (s t : ByteArray), i + 1 < x → n.names[i]? = some s → n.names[i + 1]? = some t → Op.bytesLess s.toList t.toList = true) (fun x => n.names.length - x) 0
    ⟨Nat.zero_le _, fun i s h => absurd h (by omega), fun i s t h => absurd h (by omega)⟩ ⟨⟨rfl, rfl, rfl, rfl, trivial⟩, ⟨rfl, trivial⟩, ⟨rfl, trivial⟩, Ext.refl _⟩ ?_
  rintro k ⟨hk, hv, ha⟩
  repeat (first | refine jC ?_ | refine jN ?_ | refine jS ?_ | refine jR ?_ | refine jT ?_ | refine jB ?_ | refine jX rfl ?_ | refine jY rfl ?_ | refine jK ?_ | refine jD ?_ | refine jE ?_)
  refine Br.intro (fun h => ?_) (fun h => ?_)
  · have hlt : k < n.names.length := by have := of_decide_eq_true h; omega
    obtain ⟨nb, no, rfl, hnb, hnc⟩ := hna (by omega)
    have hu : n.names[k]? = some n.names[k] := List.getElem?_eq_getElem hlt
    have hsz := hns _ (List.getElem_mem hlt)
    generalize n.names[k] = s at hu hsz
    repeat (first | refine jC ?_ | refine jN ?_ | refine jS ?_ | refine jR ?_ | refine jT ?_ | refine jB ?_ | refine jX rfl ?_ | refine jY rfl ?_ | refine jK ?_ | refine jD ?_ | refine jE ?_)
    refine Ix.mk k rfl hlt ?_
    repeat (first | refine jC ?_ | refine jN ?_ | refine jS ?_ | refine jR ?_ | refine jT ?_ | refine jB ?_ | refine jX rfl ?_ | refine jY rfl ?_ | refine jK ?_ | refine jD ?_ | refine jE ?_)
    refine Ld.mk (hnc.out k _ (strs_get hu)) ?_
    repeat (first | refine jC ?_ | refine jN ?_ | refine jS ?_ | refine jR ?_ | refine jT ?_ | refine jB ?_ | refine jX rfl ?_ | refine jY rfl ?_ | refine jK ?_ | refine jD ?_ | refine jE ?_)
    refine CallV.val (fun w' _ _ => (iNameValid_any s w' hsz).of_same) ?_
    repeat (first | refine jC ?_ | refine jN ?_ | refine jS ?_ | refine jR ?_ | refine jT ?_ | refine jB ?_ | refine jX rfl ?_ | refine jY rfl ?_ | refine jK ?_ | refine jD ?_ | refine jE ?_)
    refine Br.intro (fun h4 => ?_) (fun h4 => ?_)
    · repeat (first | refine jC ?_ | refine jN ?_ | refine jS ?_ | refine jR ?_ | refine jT ?_ | refine jB ?_ | refine jX rfl ?_ | refine jY rfl ?_ | refine jK ?_ | refine jD ?_ | refine jE ?_)
      exact EndV.val (by rw [Nd.okB_no fun h => by have := h.val k s hu; simp [this] at h4]) (Ext.refl _)
    have h4 : nameOk s.data.toList = true := by simpa using h4
    have hv' : ∀ (i : Nat) (s : ByteArray), i < k + 1 → n.names[i]? = some s → nameOk s.data.toList = true := fun i s' hi hs' => by
      by_cases hik : i = k
      · subst hik; rw [hu] at hs'; cases hs'; exact h4
      · exact hv i s' (by omega) hs'
    repeat (first | refine jC ?_ | refine jN ?_ | refine jS ?_ | refine jR ?_ | refine jT ?_ | refine jB ?_ | refine jX rfl ?_ | refine jY rfl ?_ | refine jK ?_ | refine jD ?_ | refine jE ?_)
    refine Br.intro (fun h5 => ?_) (fun h5 => ?_)
    · have hk0 : 0 < k := by have := of_decide_eq_true h5; omega
      have hp : n.names[k - 1]? = some n.names[k - 1] := List.getElem?_eq_getElem (by omega)
      generalize n.names[k - 1] = t at hp
      repeat (first | refine jC ?_ | refine jN ?_ | refine jS ?_ | refine jR ?_ | refine jT ?_ | refine jB ?_ | refine jX rfl ?_ | refine jY rfl ?_ | refine jK ?_ | refine jD ?_ | refine jE ?_)
      refine ⟨I64.mk (by omega), ?_⟩
      repeat (first | refine jC ?_ | refine jN ?_ | refine jS ?_ | refine jR ?_ | refine jT ?_ | refine jB ?_ | refine jX rfl ?_ | refine jY rfl ?_ | refine jK ?_ | refine jD ?_ | refine jE ?_)
      refine Ix.mk (k - 1) (by omega) (by omega) ?_
      repeat (first | refine jC ?_ | refine jN ?_ | refine jS ?_ | refine jR ?_ | refine jT ?_ | refine jB ?_ | refine jX rfl ?_ | refine jY rfl ?_ | refine jK ?_ | refine jD ?_ | refine jE ?_)
      refine Ld.mk (hnc.out (k - 1) _ (strs_get hp)) ?_
      repeat (first | refine jC ?_ | refine jN ?_ | refine jS ?_ | refine jR ?_ | refine jT ?_ | refine jB ?_ | refine jX rfl ?_ | refine jY rfl ?_ | refine jK ?_ | refine jD ?_ | refine jE ?_)
      refine Br.intro (fun h6 => ?_) (fun h6 => ?_)
      · repeat (first | refine jC ?_ | refine jN ?_ | refine jS ?_ | refine jR ?_ | refine jT ?_ | refine jB ?_ | refine jX rfl ?_ | refine jY rfl ?_ | refine jK ?_ | refine jD ?_ | refine jE ?_)
        exact EndV.val (by rw [Nd.okB_no fun h => by have := h.asc (k - 1) t s hp (by rw [show k - 1 + 1 = k by omega]; exact hu); simp [this] at h6]) (Ext.refl _)
      · have h6 : Op.bytesLess t.toList s.toList = true := by simpa using h6
        repeat (first | refine jC ?_ | refine jN ?_ | refine jS ?_ | refine jR ?_ | refine jT ?_ | refine jB ?_ | refine jX rfl ?_ | refine jY rfl ?_ | refine jK ?_ | refine jD ?_ | refine jE ?_)
        refine ⟨I64.mk (by omega), ?_⟩
        repeat (first | refine jC ?_ | refine jN ?_ | refine jS ?_ | refine jR ?_ | refine jT ?_ | refine jB ?_ | refine jX rfl ?_ | refine jY rfl ?_ | refine jK ?_ | refine jD ?_ | refine jE ?_)
        refine ⟨k + 1, ⟨hlt, hv', fun i s' t' hi hs' ht' => ?_⟩, by show n.names.length - (k + 1) < n.names.length - k; omega, ⟨rfl, rfl, rfl, rfl, trivial⟩, ⟨rfl, trivial⟩, ⟨rfl, trivial⟩, Ext.refl _⟩
        by_cases hik : i + 1 = k
        · subst hik
          rw [hu] at ht'; cases ht'
          rw [show i + 1 - 1 = i by omega, hs'] at hp
          cases hp
          exact h6
        · exact ha i s' t' (by omega) hs' ht'
    · have hk0 : k = 0 := by have := of_decide_eq_false h5; omega
      repeat (first | refine jC ?_ | refine jN ?_ | refine jS ?_ | refine jR ?_ | refine jT ?_ | refine jB ?_ | refine jX rfl ?_ | refine jY rfl ?_ | refine jK ?_ | refine jD ?_ | refine jE ?_)
      refine ⟨I64.mk (by omega), ?_⟩
      repeat (first | refine jC ?_ | refine jN ?_ | refine jS ?_ | refine jR ?_ | refine jT ?_ | refine jB ?_ | refine jX rfl ?_ | refine jY rfl ?_ | refine jK ?_ | refine jD ?_ | refine jE ?_)
      exact ⟨k + 1, ⟨hlt, hv', fun i s' t' hi => absurd hi (by omega)⟩, by show n.names.length - (k + 1) < n.names.length - k; omega, ⟨rfl, rfl, rfl, rfl, trivial⟩, ⟨rfl, trivial⟩, ⟨rfl, trivial⟩, Ext.refl _⟩
  · have hke : k = n.names.length := by have := of_decide_eq_false h; omega
    subst hke
    repeat (first | refine jC ?_ | refine jN ?_ | refine jS ?_ | refine jR ?_ | refine jT ?_ | refine jB ?_ | refine jX rfl ?_ | refine jY rfl ?_ | refine jK ?_ | refine jD ?_ | refine jE ?_)
    refine Br.intro (fun h4 => ?_) (fun h4 => ?_)
    · have h4 : n.text.size = 0 := by rw [empty_text] at h4; exact of_decide_eq_true h4
      repeat (first | refine jC ?_ | refine jN ?_ | refine jS ?_ | refine jR ?_ | refine jT ?_ | refine jB ?_ | refine jX rfl ?_ | refine jY rfl ?_ | refine jK ?_ | refine jD ?_ | refine jE ?_)
      refine EndV.val ?_ (Ext.refl _)
      by_cases h6 : n.names.length = n.kids.length
      · rw [Nd.okB_yes ⟨h1, h2, h3, h6, fun h => (by rw [hf] at h; cases h), fun _ => h4, by omega, fun i s hs => hv i s (List.getElem?_eq_some_iff.1 hs).1 hs, fun i s t hs ht => ha i s t (List.getElem?_eq_some_iff.1 ht).1 hs ht⟩]
        exact congrArg Value.bool (decide_eq_true (by omega))
      · rw [Nd.okB_no fun h => h6 h.len]; exact congrArg Value.bool (decide_eq_false (by omega))
    · have h4 : n.text.size ≠ 0 := by rw [empty_text] at h4; exact of_decide_eq_false h4
      repeat (first | refine jC ?_ | refine jN ?_ | refine jS ?_ | refine jR ?_ | refine jT ?_ | refine jB ?_ | refine jX rfl ?_ | refine jY rfl ?_ | refine jK ?_ | refine jD ?_ | refine jE ?_)
      exact EndV.val (by rw [Nd.okB_no fun h => h4 (h.dir hf)]) (Ext.refl _)
/-- What is looked at at one node. -/
def NAt (ts : List Nd) (i : Nat) : Prop := ∀ n : Nd, ts[i]? = some n → n.Ok ∧ (1 ≤ i → 1 ≤ (linksOf ts).getD i 0 ∧ (n.folder = true → (linksOf ts).getD i 0 ≤ 1)) ∧ ∀ k ∈ n.kids, ∀ m : Nd, ts[k.toNat]? = some m → m.folder = true → (i : Int) < k
theorem tree_of {ts : List Nd} (h1 : 1 ≤ ts.length) (h2 : ts.length ≤ (linksOf ts).length) (h3 : ∀ n : Nd, ts[0]? = some n → n.folder = true) (h4 : (linksOf ts).getD 0 0 ≤ 0) (h5 : ∀ i, i < ts.length → NAt ts i) : TreeOk ts := by
  obtain ⟨a, b, c, d⟩ := links_full h2 h1
  have e := (links_zero h2 h1).1 h4
  have lt : ∀ (i : Nat) (n : Nd), ts[i]? = some n → i < ts.length := fun i n h => (List.getElem?_eq_some_iff.1 h).1
  exact ⟨h1, a, h3, fun i n h => (h5 i (lt i n h) n h).1, fun i n h k hk => ⟨e i n h k hk, (c i n h k hk).2⟩, fun i n h => (h5 i (lt i n h) n h).2.2, fun i n hi h => ((h5 i (lt i n h) n h).2.1 hi).1, fun i n hi h => ((h5 i (lt i n h) n h).2.1 hi).2⟩
theorem tree_links {ts : List Nd} (h : TreeOk ts) : (linksOf ts).length = ts.length := links_full' h.hi fun i n hi k hk => by have := h.kids i n hi k hk; omega
theorem tree_root {ts : List Nd} (h : TreeOk ts) : (linksOf ts).getD 0 0 ≤ 0 := (links_zero (by rw [tree_links h]; exact Nat.le_refl _) h.lo).2 fun i n hi k hk => (h.kids i n hi k hk).1
theorem ints_get {l : List Int} {i : Nat} (h : i < l.length) : (ints l)[i]? = some (.int .i64 (l.getD i 0)) := by
  simp [List.getD_eq_getElem?_getD, h]
set_option maxHeartbeats 1000000 in
theorem iTreeValid_vc (ts : List Nd) (v : Value) (w : World) (hT : Tree w v ts) (hs : Sized ts) (hwf : ∀ n ∈ ts, n.wf) : Gives Tryz.prog 58 #[v] w (.bool (treeB ts)) := by
  have hl := hs.1
  refine calls_of cx_ok Tryz.func58 Tryz.ntmps58 Tryz.results58 rfl rfl ?_
  repeat (first | refine jC ?_ | refine jN ?_ | refine jS ?_ | refine jR ?_ | refine jT ?_ | refine jB ?_ | refine jX rfl ?_ | refine jY rfl ?_ | refine jK ?_ | refine jD ?_ | refine jE ?_)
  refine CallV.mem _ (fun w' hw _ => iLinksOf_vc ts v w' (hT.ext hw) hs) (fun x1 wa wb hx1 hx2 _ ⟨lad, ln, lcap, e1, hB⟩ => ?_)
  subst e1
  have hxb := hx1.trans hx2
  have hln : ln = (linksOf ts).length := by have := hB.len; simp at this; omega
  subst hln
  have hR := hB.row1
  clear hB
  obtain ⟨lad', lcap', e, _, _, hlat⟩ := hR
  have hlen : (ints (linksOf ts)).length = (linksOf ts).length := by simp
  rw [hlen] at hlat e
  cases e
  obtain ⟨ad, cap, rfl, hlc, hcm, hat⟩ := hT.ext hxb
  repeat (first | refine jC ?_ | refine jN ?_ | refine jS ?_ | refine jR ?_ | refine jT ?_ | refine jB ?_ | refine jX rfl ?_ | refine jY rfl ?_ | refine jK ?_ | refine jD ?_ | refine jE ?_)
  refine Br.intro (fun h => ?_) (fun h => ?_)
  · have h := of_decide_eq_true h
    repeat (first | refine jC ?_ | refine jN ?_ | refine jS ?_ | refine jR ?_ | refine jT ?_ | refine jB ?_ | refine jX rfl ?_ | refine jY rfl ?_ | refine jK ?_ | refine jD ?_ | refine jE ?_)
    exact EndV.val (by rw [treeB_no fun h' => by have := h'.lo; omega]) hxb
  have h1 : 1 ≤ ts.length := by have := of_decide_eq_false h; omega
  repeat (first | refine jC ?_ | refine jN ?_ | refine jS ?_ | refine jR ?_ | refine jT ?_ | refine jB ?_ | refine jX rfl ?_ | refine jY rfl ?_ | refine jK ?_ | refine jD ?_ | refine jE ?_)
  refine Br.intro (fun h => ?_) (fun h => ?_)
  · have h := of_decide_eq_true h
    repeat (first | refine jC ?_ | refine jN ?_ | refine jS ?_ | refine jR ?_ | refine jT ?_ | refine jB ?_ | refine jX rfl ?_ | refine jY rfl ?_ | refine jK ?_ | refine jD ?_ | refine jE ?_)
    exact EndV.val (by rw [treeB_no fun h' => by have := tree_links h'; omega]) hxb
  have h2 : ts.length ≤ (linksOf ts).length := by have := of_decide_eq_false h; omega
  obtain ⟨h16, hll, hkr, hcount⟩ := links_full h2 h1
  obtain ⟨b, o, rfl, hb, hc⟩ := hat (by omega)
  obtain ⟨lb, lo, rfl, hlc2⟩ := hlat (by omega)
  have h00 : ts[0]? = some ts[0] := List.getElem?_eq_getElem (by omega)
  generalize ts[0] = n0 at h00
  obtain ⟨nv0, kv0, hc0, _⟩ := hc 0 n0 h00
  repeat (first | refine jC ?_ | refine jN ?_ | refine jS ?_ | refine jR ?_ | refine jT ?_ | refine jB ?_ | refine jX rfl ?_ | refine jY rfl ?_ | refine jK ?_ | refine jD ?_ | refine jE ?_)
  refine Ix.mk 0 rfl (by omega) ?_
  repeat (first | refine jC ?_ | refine jN ?_ | refine jS ?_ | refine jR ?_ | refine jT ?_ | refine jB ?_ | refine jX rfl ?_ | refine jY rfl ?_ | refine jK ?_ | refine jD ?_ | refine jE ?_)
  refine Ld.mk (hc0.out 0 _ rfl) ?_
  repeat (first | refine jC ?_ | refine jN ?_ | refine jS ?_ | refine jR ?_ | refine jT ?_ | refine jB ?_ | refine jX rfl ?_ | refine jY rfl ?_ | refine jK ?_ | refine jD ?_ | refine jE ?_)
  refine Br.intro (fun h => ?_) (fun h => ?_)
  · have h : n0.folder = false := by simpa using h
    repeat (first | refine jC ?_ | refine jN ?_ | refine jS ?_ | refine jR ?_ | refine jT ?_ | refine jB ?_ | refine jX rfl ?_ | refine jY rfl ?_ | refine jK ?_ | refine jD ?_ | refine jE ?_)
    exact EndV.val (by rw [treeB_no fun h' => by have := h'.root n0 h00; rw [h] at this; cases this]) hxb
  have h3 : n0.folder = true := by simpa using h
  repeat (first | refine jC ?_ | refine jN ?_ | refine jS ?_ | refine jR ?_ | refine jT ?_ | refine jB ?_ | refine jX rfl ?_ | refine jY rfl ?_ | refine jK ?_ | refine jD ?_ | refine jE ?_)
  refine Ix.mk 0 rfl (by omega) ?_
  repeat (first | refine jC ?_ | refine jN ?_ | refine jS ?_ | refine jR ?_ | refine jT ?_ | refine jB ?_ | refine jX rfl ?_ | refine jY rfl ?_ | refine jK ?_ | refine jD ?_ | refine jE ?_)
  refine Ld.mk (hlc2.out 0 _ (ints_get (by omega))) ?_
  repeat (first | refine jC ?_ | refine jN ?_ | refine jS ?_ | refine jR ?_ | refine jT ?_ | refine jB ?_ | refine jX rfl ?_ | refine jY rfl ?_ | refine jK ?_ | refine jD ?_ | refine jE ?_)
  refine Br.intro (fun h => ?_) (fun h => ?_)
  · have h := of_decide_eq_true h
    repeat (first | refine jC ?_ | refine jN ?_ | refine jS ?_ | refine jR ?_ | refine jT ?_ | refine jB ?_ | refine jX rfl ?_ | refine jY rfl ?_ | refine jK ?_ | refine jD ?_ | refine jE ?_)
    exact EndV.val (by rw [treeB_no fun h' => by have := tree_root h'; omega]) hxb
  have h4 : (linksOf ts).getD 0 0 ≤ 0 := by have := of_decide_eq_false h; omega
  repeat (first | refine jC ?_ | refine jN ?_ | refine jS ?_ | refine jR ?_ | refine jT ?_ | refine jB ?_ | refine jX rfl ?_ | refine jY rfl ?_ | refine jK ?_ | refine jD ?_ | refine jE ?_)
  refine WpC.loop (α := Nat) (fun x => ⟨[(0, .v (.slice (some ⟨b, o, none⟩) ts.length cap)), (3, .v (.slice (some ⟨lb, lo, none⟩) (linksOf ts).length lcap)), (33, .v (.slice (some ⟨b, o, none⟩) ts.length cap)), (34, .v (.int .i64 (ts.length : Int))), (35, .v (.int .i64 (x : Int)))], [], wb⟩)
    (fun x => x ≤ ts.length ∧ ∀ i, i < x → NAt ts i) (fun x => ts.length - x) 0 ⟨Nat.zero_le _, fun i h => absurd h (by omega)⟩ ⟨⟨rfl, rfl, rfl, rfl, rfl, trivial⟩, trivial, trivial, Ext.refl _⟩ ?_
  rintro i ⟨hi, hn⟩
  repeat (first | refine jC ?_ | refine jN ?_ | refine jS ?_ | refine jR ?_ | refine jT ?_ | refine jB ?_ | refine jX rfl ?_ | refine jY rfl ?_ | refine jK ?_ | refine jD ?_ | refine jE ?_)
  refine Br.intro (fun h => ?_) (fun h => ?_)
  · have hlt : i < ts.length := by have := of_decide_eq_true h; omega
    have hu : ts[i]? = some ts[i] := List.getElem?_eq_getElem hlt
    have hw := hwf _ (List.getElem_mem hlt)
    have hsn := (hs.2 _ (List.getElem_mem hlt)).2
    generalize ts[i] = n at hu hw hsn
    obtain ⟨nv, kv, hcn, hN⟩ := hc i n hu
    have hN' := hN
    obtain ⟨kad, kcap, rfl, hka⟩ := kids_open hN
    obtain ⟨nad, ncap, rfl, hna⟩ := names_open hN
    repeat (first | refine jC ?_ | refine jN ?_ | refine jS ?_ | refine jR ?_ | refine jT ?_ | refine jB ?_ | refine jX rfl ?_ | refine jY rfl ?_ | refine jK ?_ | refine jD ?_ | refine jE ?_)
    refine Ix.mk i rfl hlt ?_
    repeat (first | refine jC ?_ | refine jN ?_ | refine jS ?_ | refine jR ?_ | refine jT ?_ | refine jB ?_ | refine jX rfl ?_ | refine jY rfl ?_ | refine jK ?_ | refine jD ?_ | refine jE ?_)
    refine LdN.mk hcn rfl ?_
    repeat (first | refine jC ?_ | refine jN ?_ | refine jS ?_ | refine jR ?_ | refine jT ?_ | refine jB ?_ | refine jX rfl ?_ | refine jY rfl ?_ | refine jK ?_ | refine jD ?_ | refine jE ?_)
    intro b5 hb5
    repeat (first | refine jC ?_ | refine jN ?_ | refine jS ?_ | refine jR ?_ | refine jT ?_ | refine jB ?_ | refine jX rfl ?_ | refine jY rfl ?_ | refine jK ?_ | refine jD ?_ | refine jE ?_)
    refine ⟨by assumption, rfl, by simp, by simp [Value.oneCell'], ?_⟩
    repeat (first | refine jC ?_ | refine jN ?_ | refine jS ?_ | refine jR ?_ | refine jT ?_ | refine jB ?_ | refine jX rfl ?_ | refine jY rfl ?_ | refine jK ?_ | refine jD ?_ | refine jE ?_)
    refine CallV.val (fun w' hw' _ => iNodeValid_vc n _ _ w' (hN'.ext hw') hw) ?_
    repeat (first | refine jC ?_ | refine jN ?_ | refine jS ?_ | refine jR ?_ | refine jT ?_ | refine jB ?_ | refine jX rfl ?_ | refine jY rfl ?_ | refine jK ?_ | refine jD ?_ | refine jE ?_)
    refine Br.intro (fun h5 => ?_) (fun h5 => ?_)
    · have h5 : n.okB = false := by simpa using h5
      repeat (first | refine jC ?_ | refine jN ?_ | refine jS ?_ | refine jR ?_ | refine jT ?_ | refine jB ?_ | refine jX rfl ?_ | refine jY rfl ?_ | refine jK ?_ | refine jD ?_ | refine jE ?_)
      exact EndV.val (by rw [treeB_no fun h' => by rw [Nd.okB_yes (h'.nodes i n hu)] at h5; cases h5]) hxb
    have h5 : n.Ok := Nd.okB_iff.1 (by simpa using h5)
    repeat (first | refine jC ?_ | refine jN ?_ | refine jS ?_ | refine jR ?_ | refine jT ?_ | refine jB ?_ | refine jX rfl ?_ | refine jY rfl ?_ | refine jK ?_ | refine jD ?_ | refine jE ?_)
    refine Br.intro (fun h6 => ?_) (fun h6 => ?_)
    · have hi0 : 0 < i := by have := of_decide_eq_true h6; omega
      repeat (first | refine jC ?_ | refine jN ?_ | refine jS ?_ | refine jR ?_ | refine jT ?_ | refine jB ?_ | refine jX rfl ?_ | refine jY rfl ?_ | refine jK ?_ | refine jD ?_ | refine jE ?_)
      refine Ix.mk i rfl (by omega) ?_
      repeat (first | refine jC ?_ | refine jN ?_ | refine jS ?_ | refine jR ?_ | refine jT ?_ | refine jB ?_ | refine jX rfl ?_ | refine jY rfl ?_ | refine jK ?_ | refine jD ?_ | refine jE ?_)
      refine Ld.mk (hlc2.out i _ (ints_get (by omega))) ?_
      repeat (first | refine jC ?_ | refine jN ?_ | refine jS ?_ | refine jR ?_ | refine jT ?_ | refine jB ?_ | refine jX rfl ?_ | refine jY rfl ?_ | refine jK ?_ | refine jD ?_ | refine jE ?_)
      refine Br.intro (fun h7 => ?_) (fun h7 => ?_)
      · have h7 := of_decide_eq_true h7
        repeat (first | refine jC ?_ | refine jN ?_ | refine jS ?_ | refine jR ?_ | refine jT ?_ | refine jB ?_ | refine jX rfl ?_ | refine jY rfl ?_ | refine jK ?_ | refine jD ?_ | refine jE ?_)
        exact EndV.val (by rw [treeB_no fun h' => by have := h'.some_ i n (by omega) hu; omega]) hxb
      have h7 : 1 ≤ (linksOf ts).getD i 0 := by
        have h7 := of_decide_eq_false h7
        have := hcount i hlt
        omega
      repeat (first | refine jC ?_ | refine jN ?_ | refine jS ?_ | refine jR ?_ | refine jT ?_ | refine jB ?_ | refine jX rfl ?_ | refine jY rfl ?_ | refine jK ?_ | refine jD ?_ | refine jE ?_)
      refine Br.yes h6 ?_
      repeat (first | refine jC ?_ | refine jN ?_ | refine jS ?_ | refine jR ?_ | refine jT ?_ | refine jB ?_ | refine jX rfl ?_ | refine jY rfl ?_ | refine jK ?_ | refine jD ?_ | refine jE ?_)
      refine Br.intro (fun h8 => ?_) (fun h8 => ?_)
      · repeat (first | refine jC ?_ | refine jN ?_ | refine jS ?_ | refine jR ?_ | refine jT ?_ | refine jB ?_ | refine jX rfl ?_ | refine jY rfl ?_ | refine jK ?_ | refine jD ?_ | refine jE ?_)
        refine Ix.mk i rfl (by omega) ?_
        repeat (first | refine jC ?_ | refine jN ?_ | refine jS ?_ | refine jR ?_ | refine jT ?_ | refine jB ?_ | refine jX rfl ?_ | refine jY rfl ?_ | refine jK ?_ | refine jD ?_ | refine jE ?_)
        refine Ld.mk (hlc2.out i _ (ints_get (by omega))) ?_
        repeat (first | refine jC ?_ | refine jN ?_ | refine jS ?_ | refine jR ?_ | refine jT ?_ | refine jB ?_ | refine jX rfl ?_ | refine jY rfl ?_ | refine jK ?_ | refine jD ?_ | refine jE ?_)
        refine Br.intro (fun h9 => ?_) (fun h9 => ?_)
        · have h9 := of_decide_eq_true h9
          repeat (first | refine jC ?_ | refine jN ?_ | refine jS ?_ | refine jR ?_ | refine jT ?_ | refine jB ?_ | refine jX rfl ?_ | refine jY rfl ?_ | refine jK ?_ | refine jD ?_ | refine jE ?_)
          exact EndV.val (by rw [treeB_no fun h' => by have := h'.one i n (by omega) hu h8; omega]) hxb
        have h9 := of_decide_eq_false h9
        have hq : 1 ≤ i → 1 ≤ (linksOf ts).getD i 0 ∧ (n.folder = true → (linksOf ts).getD i 0 ≤ 1) := fun _ => ⟨h7, fun _ => by omega⟩
        repeat (first | refine jC ?_ | refine jN ?_ | refine jS ?_ | refine jR ?_ | refine jT ?_ | refine jB ?_ | refine jX rfl ?_ | refine jY rfl ?_ | refine jK ?_ | refine jD ?_ | refine jE ?_)
        refine WpC.loop (α := Nat) (fun x => ⟨[(0, .v (.slice (some ⟨b, o, none⟩) ts.length cap)), (3, .v (.slice (some ⟨lb, lo, none⟩) (linksOf ts).length lcap)), (33, .v (.slice (some ⟨b, o, none⟩) ts.length cap)), (34, .v (.int .i64 (ts.length : Int))), (35, .v (.int .i64 (i : Int))), (4, .v (.int .i64 (i : Int))), (70, .v (.slice kad n.kids.length kcap)), (71, .v (.int .i64 (n.kids.length : Int))), (72, .v (.int .i64 (x : Int)))], [], wb⟩)
          (fun x => x ≤ n.kids.length ∧ ∀ (j : Nat) (k : Int) (m : Nd), j < x → n.kids[j]? = some k → ts[k.toNat]? = some m → m.folder = true → (i : Int) < k) (fun x => n.kids.length - x) 0 ⟨Nat.zero_le _, fun j k m h => absurd h (by omega)⟩ ⟨⟨rfl, rfl, rfl, rfl, rfl, rfl, rfl, rfl, rfl, trivial⟩, trivial, trivial, Ext.refl _⟩ ?_
        rintro j ⟨hj, hd⟩
        repeat (first | refine jC ?_ | refine jN ?_ | refine jS ?_ | refine jR ?_ | refine jT ?_ | refine jB ?_ | refine jX rfl ?_ | refine jY rfl ?_ | refine jK ?_ | refine jD ?_ | refine jE ?_)
        refine Br.intro (fun hj2 => ?_) (fun hj2 => ?_)
        · have hjl : j < n.kids.length := by have := of_decide_eq_true hj2; omega
          obtain ⟨kb, ko, rfl, hkb, hkc⟩ := hka (by omega)
          have hkj : n.kids[j]? = some n.kids[j] := List.getElem?_eq_getElem hjl
          have hkm := List.getElem_mem hjl
          have hk : (ints n.kids)[j]? = some (.int .i64 n.kids[j]) := by simp [hjl]
          generalize n.kids[j] = k at hkj hkm hk
          have hkb2 := hkr i n hu k hkm
          have hkl : k.toNat < ts.length := by omega
          have hm : ts[k.toNat]? = some ts[k.toNat] := List.getElem?_eq_getElem hkl
          generalize ts[k.toNat] = m at hm
          obtain ⟨mnv, mkv, hcm2, _⟩ := hc k.toNat m hm
          repeat (first | refine jC ?_ | refine jN ?_ | refine jS ?_ | refine jR ?_ | refine jT ?_ | refine jB ?_ | refine jX rfl ?_ | refine jY rfl ?_ | refine jK ?_ | refine jD ?_ | refine jE ?_)
          refine Ix.mk j rfl hjl ?_
          repeat (first | refine jC ?_ | refine jN ?_ | refine jS ?_ | refine jR ?_ | refine jT ?_ | refine jB ?_ | refine jX rfl ?_ | refine jY rfl ?_ | refine jK ?_ | refine jD ?_ | refine jE ?_)
          refine Ld.mk (hkc.out j _ hk) ?_
          repeat (first | refine jC ?_ | refine jN ?_ | refine jS ?_ | refine jR ?_ | refine jT ?_ | refine jB ?_ | refine jX rfl ?_ | refine jY rfl ?_ | refine jK ?_ | refine jD ?_ | refine jE ?_)
          refine Ix.mk k.toNat (Int.toNat_of_nonneg hkb2.1).symm hkl ?_
          repeat (first | refine jC ?_ | refine jN ?_ | refine jS ?_ | refine jR ?_ | refine jT ?_ | refine jB ?_ | refine jX rfl ?_ | refine jY rfl ?_ | refine jK ?_ | refine jD ?_ | refine jE ?_)
          refine Ld.mk (hcm2.out 0 _ rfl) ?_
          repeat (first | refine jC ?_ | refine jN ?_ | refine jS ?_ | refine jR ?_ | refine jT ?_ | refine jB ?_ | refine jX rfl ?_ | refine jY rfl ?_ | refine jK ?_ | refine jD ?_ | refine jE ?_)
          have step : (m.folder = true → (i : Int) < k) → ∀ (j' : Nat) (k' : Int) (m' : Nd), j' < j + 1 → n.kids[j']? = some k' → ts[k'.toNat]? = some m' → m'.folder = true → (i : Int) < k' := fun hmk j' k' m' hj' hk' hm' hf' => by
            by_cases hjj : j' = j
            · subst hjj
              rw [hkj] at hk'; cases hk'
              rw [hm] at hm'; cases hm'
              exact hmk hf'
            · exact hd j' k' m' (by omega) hk' hm' hf'
          refine Br.intro (fun hf => ?_) (fun hf => ?_)
          · repeat (first | refine jC ?_ | refine jN ?_ | refine jS ?_ | refine jR ?_ | refine jT ?_ | refine jB ?_ | refine jX rfl ?_ | refine jY rfl ?_ | refine jK ?_ | refine jD ?_ | refine jE ?_)
            refine Br.intro (fun hle => ?_) (fun hle => ?_)
            · have hle := of_decide_eq_true hle
              repeat (first | refine jC ?_ | refine jN ?_ | refine jS ?_ | refine jR ?_ | refine jT ?_ | refine jB ?_ | refine jX rfl ?_ | refine jY rfl ?_ | refine jK ?_ | refine jD ?_ | refine jE ?_)
              exact EndV.val (by rw [treeB_no fun h' => by have := h'.down i n hu k hkm m hm hf; omega]) hxb
            · have hle := of_decide_eq_false hle
              repeat (first | refine jC ?_ | refine jN ?_ | refine jS ?_ | refine jR ?_ | refine jT ?_ | refine jB ?_ | refine jX rfl ?_ | refine jY rfl ?_ | refine jK ?_ | refine jD ?_ | refine jE ?_)
              refine ⟨I64.mk (by omega), ?_⟩
              repeat (first | refine jC ?_ | refine jN ?_ | refine jS ?_ | refine jR ?_ | refine jT ?_ | refine jB ?_ | refine jX rfl ?_ | refine jY rfl ?_ | refine jK ?_ | refine jD ?_ | refine jE ?_)
              exact ⟨j + 1, ⟨hjl, step fun _ => by omega⟩, by show n.kids.length - (j + 1) < n.kids.length - j; omega, ⟨rfl, rfl, rfl, rfl, rfl, rfl, rfl, rfl, rfl, trivial⟩, trivial, trivial, Ext.refl _⟩
          · repeat (first | refine jC ?_ | refine jN ?_ | refine jS ?_ | refine jR ?_ | refine jT ?_ | refine jB ?_ | refine jX rfl ?_ | refine jY rfl ?_ | refine jK ?_ | refine jD ?_ | refine jE ?_)
            refine ⟨I64.mk (by omega), ?_⟩
            repeat (first | refine jC ?_ | refine jN ?_ | refine jS ?_ | refine jR ?_ | refine jT ?_ | refine jB ?_ | refine jX rfl ?_ | refine jY rfl ?_ | refine jK ?_ | refine jD ?_ | refine jE ?_)
            exact ⟨j + 1, ⟨hjl, step fun e => by rw [e] at hf; cases hf⟩, by show n.kids.length - (j + 1) < n.kids.length - j; omega, ⟨rfl, rfl, rfl, rfl, rfl, rfl, rfl, rfl, rfl, trivial⟩, trivial, trivial, Ext.refl _⟩
        · have hje : j = n.kids.length := by have := of_decide_eq_false hj2; omega
          subst hje
          repeat (first | refine jC ?_ | refine jN ?_ | refine jS ?_ | refine jR ?_ | refine jT ?_ | refine jB ?_ | refine jX rfl ?_ | refine jY rfl ?_ | refine jK ?_ | refine jD ?_ | refine jE ?_)
          refine ⟨I64.mk (by omega), ?_⟩
          repeat (first | refine jC ?_ | refine jN ?_ | refine jS ?_ | refine jR ?_ | refine jT ?_ | refine jB ?_ | refine jX rfl ?_ | refine jY rfl ?_ | refine jK ?_ | refine jD ?_ | refine jE ?_)
          refine ⟨i + 1, ⟨hlt, fun i' hi' => ?_⟩, by show ts.length - (i + 1) < ts.length - i; omega, ⟨rfl, rfl, rfl, rfl, rfl, trivial⟩, trivial, trivial, Ext.refl _⟩
          by_cases hii : i' = i
          · subst hii
            intro n' hn'
            rw [hu] at hn'
            cases hn'
            refine ⟨h5, hq, fun k hk m hm hf => ?_⟩
            obtain ⟨j', hj', rfl⟩ := List.getElem_of_mem hk
            exact hd j' _ m hj' (List.getElem?_eq_getElem hj') hm hf
          · exact hn i' (by omega)
      · have hq : 1 ≤ i → 1 ≤ (linksOf ts).getD i 0 ∧ (n.folder = true → (linksOf ts).getD i 0 ≤ 1) := fun _ => ⟨h7, fun e => by rw [e] at h8; cases h8⟩
        repeat (first | refine jC ?_ | refine jN ?_ | refine jS ?_ | refine jR ?_ | refine jT ?_ | refine jB ?_ | refine jX rfl ?_ | refine jY rfl ?_ | refine jK ?_ | refine jD ?_ | refine jE ?_)
        refine WpC.loop (α := Nat) (fun x => ⟨[(0, .v (.slice (some ⟨b, o, none⟩) ts.length cap)), (3, .v (.slice (some ⟨lb, lo, none⟩) (linksOf ts).length lcap)), (33, .v (.slice (some ⟨b, o, none⟩) ts.length cap)), (34, .v (.int .i64 (ts.length : Int))), (35, .v (.int .i64 (i : Int))), (4, .v (.int .i64 (i : Int))), (70, .v (.slice kad n.kids.length kcap)), (71, .v (.int .i64 (n.kids.length : Int))), (72, .v (.int .i64 (x : Int)))], [], wb⟩)
          (fun x => x ≤ n.kids.length ∧ ∀ (j : Nat) (k : Int) (m : Nd), j < x → n.kids[j]? = some k → ts[k.toNat]? = some m → m.folder = true → (i : Int) < k) (fun x => n.kids.length - x) 0 ⟨Nat.zero_le _, fun j k m h => absurd h (by omega)⟩ ⟨⟨rfl, rfl, rfl, rfl, rfl, rfl, rfl, rfl, rfl, trivial⟩, trivial, trivial, Ext.refl _⟩ ?_
        rintro j ⟨hj, hd⟩
        repeat (first | refine jC ?_ | refine jN ?_ | refine jS ?_ | refine jR ?_ | refine jT ?_ | refine jB ?_ | refine jX rfl ?_ | refine jY rfl ?_ | refine jK ?_ | refine jD ?_ | refine jE ?_)
        refine Br.intro (fun hj2 => ?_) (fun hj2 => ?_)
        · have hjl : j < n.kids.length := by have := of_decide_eq_true hj2; omega
          obtain ⟨kb, ko, rfl, hkb, hkc⟩ := hka (by omega)
          have hkj : n.kids[j]? = some n.kids[j] := List.getElem?_eq_getElem hjl
          have hkm := List.getElem_mem hjl
          have hk : (ints n.kids)[j]? = some (.int .i64 n.kids[j]) := by simp [hjl]
          generalize n.kids[j] = k at hkj hkm hk
          have hkb2 := hkr i n hu k hkm
          have hkl : k.toNat < ts.length := by omega
          have hm : ts[k.toNat]? = some ts[k.toNat] := List.getElem?_eq_getElem hkl
          generalize ts[k.toNat] = m at hm
          obtain ⟨mnv, mkv, hcm2, _⟩ := hc k.toNat m hm
          repeat (first | refine jC ?_ | refine jN ?_ | refine jS ?_ | refine jR ?_ | refine jT ?_ | refine jB ?_ | refine jX rfl ?_ | refine jY rfl ?_ | refine jK ?_ | refine jD ?_ | refine jE ?_)
          refine Ix.mk j rfl hjl ?_
          repeat (first | refine jC ?_ | refine jN ?_ | refine jS ?_ | refine jR ?_ | refine jT ?_ | refine jB ?_ | refine jX rfl ?_ | refine jY rfl ?_ | refine jK ?_ | refine jD ?_ | refine jE ?_)
          refine Ld.mk (hkc.out j _ hk) ?_
          repeat (first | refine jC ?_ | refine jN ?_ | refine jS ?_ | refine jR ?_ | refine jT ?_ | refine jB ?_ | refine jX rfl ?_ | refine jY rfl ?_ | refine jK ?_ | refine jD ?_ | refine jE ?_)
          refine Ix.mk k.toNat (Int.toNat_of_nonneg hkb2.1).symm hkl ?_
          repeat (first | refine jC ?_ | refine jN ?_ | refine jS ?_ | refine jR ?_ | refine jT ?_ | refine jB ?_ | refine jX rfl ?_ | refine jY rfl ?_ | refine jK ?_ | refine jD ?_ | refine jE ?_)
          refine Ld.mk (hcm2.out 0 _ rfl) ?_
          repeat (first | refine jC ?_ | refine jN ?_ | refine jS ?_ | refine jR ?_ | refine jT ?_ | refine jB ?_ | refine jX rfl ?_ | refine jY rfl ?_ | refine jK ?_ | refine jD ?_ | refine jE ?_)
          have step : (m.folder = true → (i : Int) < k) → ∀ (j' : Nat) (k' : Int) (m' : Nd), j' < j + 1 → n.kids[j']? = some k' → ts[k'.toNat]? = some m' → m'.folder = true → (i : Int) < k' := fun hmk j' k' m' hj' hk' hm' hf' => by
            by_cases hjj : j' = j
            · subst hjj
              rw [hkj] at hk'; cases hk'
              rw [hm] at hm'; cases hm'
              exact hmk hf'
            · exact hd j' k' m' (by omega) hk' hm' hf'
          refine Br.intro (fun hf => ?_) (fun hf => ?_)
          · repeat (first | refine jC ?_ | refine jN ?_ | refine jS ?_ | refine jR ?_ | refine jT ?_ | refine jB ?_ | refine jX rfl ?_ | refine jY rfl ?_ | refine jK ?_ | refine jD ?_ | refine jE ?_)
            refine Br.intro (fun hle => ?_) (fun hle => ?_)
            · have hle := of_decide_eq_true hle
              repeat (first | refine jC ?_ | refine jN ?_ | refine jS ?_ | refine jR ?_ | refine jT ?_ | refine jB ?_ | refine jX rfl ?_ | refine jY rfl ?_ | refine jK ?_ | refine jD ?_ | refine jE ?_)
              exact EndV.val (by rw [treeB_no fun h' => by have := h'.down i n hu k hkm m hm hf; omega]) hxb
            · have hle := of_decide_eq_false hle
              repeat (first | refine jC ?_ | refine jN ?_ | refine jS ?_ | refine jR ?_ | refine jT ?_ | refine jB ?_ | refine jX rfl ?_ | refine jY rfl ?_ | refine jK ?_ | refine jD ?_ | refine jE ?_)
              refine ⟨I64.mk (by omega), ?_⟩
              repeat (first | refine jC ?_ | refine jN ?_ | refine jS ?_ | refine jR ?_ | refine jT ?_ | refine jB ?_ | refine jX rfl ?_ | refine jY rfl ?_ | refine jK ?_ | refine jD ?_ | refine jE ?_)
              exact ⟨j + 1, ⟨hjl, step fun _ => by omega⟩, by show n.kids.length - (j + 1) < n.kids.length - j; omega, ⟨rfl, rfl, rfl, rfl, rfl, rfl, rfl, rfl, rfl, trivial⟩, trivial, trivial, Ext.refl _⟩
          · repeat (first | refine jC ?_ | refine jN ?_ | refine jS ?_ | refine jR ?_ | refine jT ?_ | refine jB ?_ | refine jX rfl ?_ | refine jY rfl ?_ | refine jK ?_ | refine jD ?_ | refine jE ?_)
            refine ⟨I64.mk (by omega), ?_⟩
            repeat (first | refine jC ?_ | refine jN ?_ | refine jS ?_ | refine jR ?_ | refine jT ?_ | refine jB ?_ | refine jX rfl ?_ | refine jY rfl ?_ | refine jK ?_ | refine jD ?_ | refine jE ?_)
            exact ⟨j + 1, ⟨hjl, step fun e => by rw [e] at hf; cases hf⟩, by show n.kids.length - (j + 1) < n.kids.length - j; omega, ⟨rfl, rfl, rfl, rfl, rfl, rfl, rfl, rfl, rfl, trivial⟩, trivial, trivial, Ext.refl _⟩
        · have hje : j = n.kids.length := by have := of_decide_eq_false hj2; omega
          subst hje
          repeat (first | refine jC ?_ | refine jN ?_ | refine jS ?_ | refine jR ?_ | refine jT ?_ | refine jB ?_ | refine jX rfl ?_ | refine jY rfl ?_ | refine jK ?_ | refine jD ?_ | refine jE ?_)
          refine ⟨I64.mk (by omega), ?_⟩
          repeat (first | refine jC ?_ | refine jN ?_ | refine jS ?_ | refine jR ?_ | refine jT ?_ | refine jB ?_ | refine jX rfl ?_ | refine jY rfl ?_ | refine jK ?_ | refine jD ?_ | refine jE ?_)
          refine ⟨i + 1, ⟨hlt, fun i' hi' => ?_⟩, by show ts.length - (i + 1) < ts.length - i; omega, ⟨rfl, rfl, rfl, rfl, rfl, trivial⟩, trivial, trivial, Ext.refl _⟩
          by_cases hii : i' = i
          · subst hii
            intro n' hn'
            rw [hu] at hn'
            cases hn'
            refine ⟨h5, hq, fun k hk m hm hf => ?_⟩
            obtain ⟨j', hj', rfl⟩ := List.getElem_of_mem hk
            exact hd j' _ m hj' (List.getElem?_eq_getElem hj') hm hf
          · exact hn i' (by omega)
    · have hi0 : i = 0 := by have := of_decide_eq_false h6; omega
      have hq : 1 ≤ i → 1 ≤ (linksOf ts).getD i 0 ∧ (n.folder = true → (linksOf ts).getD i 0 ≤ 1) := fun h => absurd h (by omega)
      repeat (first | refine jC ?_ | refine jN ?_ | refine jS ?_ | refine jR ?_ | refine jT ?_ | refine jB ?_ | refine jX rfl ?_ | refine jY rfl ?_ | refine jK ?_ | refine jD ?_ | refine jE ?_)
      refine Br.no h6 ?_
      repeat (first | refine jC ?_ | refine jN ?_ | refine jS ?_ | refine jR ?_ | refine jT ?_ | refine jB ?_ | refine jX rfl ?_ | refine jY rfl ?_ | refine jK ?_ | refine jD ?_ | refine jE ?_)
      refine WpC.loop (α := Nat) (fun x => ⟨[(0, .v (.slice (some ⟨b, o, none⟩) ts.length cap)), (3, .v (.slice (some ⟨lb, lo, none⟩) (linksOf ts).length lcap)), (33, .v (.slice (some ⟨b, o, none⟩) ts.length cap)), (34, .v (.int .i64 (ts.length : Int))), (35, .v (.int .i64 (i : Int))), (4, .v (.int .i64 (i : Int))), (70, .v (.slice kad n.kids.length kcap)), (71, .v (.int .i64 (n.kids.length : Int))), (72, .v (.int .i64 (x : Int)))], [], wb⟩)
        (fun x => x ≤ n.kids.length ∧ ∀ (j : Nat) (k : Int) (m : Nd), j < x → n.kids[j]? = some k → ts[k.toNat]? = some m → m.folder = true → (i : Int) < k) (fun x => n.kids.length - x) 0 ⟨Nat.zero_le _, fun j k m h => absurd h (by omega)⟩ ⟨⟨rfl, rfl, rfl, rfl, rfl, rfl, rfl, rfl, rfl, trivial⟩, trivial, trivial, Ext.refl _⟩ ?_
      rintro j ⟨hj, hd⟩
      repeat (first | refine jC ?_ | refine jN ?_ | refine jS ?_ | refine jR ?_ | refine jT ?_ | refine jB ?_ | refine jX rfl ?_ | refine jY rfl ?_ | refine jK ?_ | refine jD ?_ | refine jE ?_)
      refine Br.intro (fun hj2 => ?_) (fun hj2 => ?_)
      · have hjl : j < n.kids.length := by have := of_decide_eq_true hj2; omega
        obtain ⟨kb, ko, rfl, hkb, hkc⟩ := hka (by omega)
        have hkj : n.kids[j]? = some n.kids[j] := List.getElem?_eq_getElem hjl
        have hkm := List.getElem_mem hjl
        have hk : (ints n.kids)[j]? = some (.int .i64 n.kids[j]) := by simp [hjl]
        generalize n.kids[j] = k at hkj hkm hk
        have hkb2 := hkr i n hu k hkm
        have hkl : k.toNat < ts.length := by omega
        have hm : ts[k.toNat]? = some ts[k.toNat] := List.getElem?_eq_getElem hkl
        generalize ts[k.toNat] = m at hm
        obtain ⟨mnv, mkv, hcm2, _⟩ := hc k.toNat m hm
        repeat (first | refine jC ?_ | refine jN ?_ | refine jS ?_ | refine jR ?_ | refine jT ?_ | refine jB ?_ | refine jX rfl ?_ | refine jY rfl ?_ | refine jK ?_ | refine jD ?_ | refine jE ?_)
        refine Ix.mk j rfl hjl ?_
        repeat (first | refine jC ?_ | refine jN ?_ | refine jS ?_ | refine jR ?_ | refine jT ?_ | refine jB ?_ | refine jX rfl ?_ | refine jY rfl ?_ | refine jK ?_ | refine jD ?_ | refine jE ?_)
        refine Ld.mk (hkc.out j _ hk) ?_
        repeat (first | refine jC ?_ | refine jN ?_ | refine jS ?_ | refine jR ?_ | refine jT ?_ | refine jB ?_ | refine jX rfl ?_ | refine jY rfl ?_ | refine jK ?_ | refine jD ?_ | refine jE ?_)
        refine Ix.mk k.toNat (Int.toNat_of_nonneg hkb2.1).symm hkl ?_
        repeat (first | refine jC ?_ | refine jN ?_ | refine jS ?_ | refine jR ?_ | refine jT ?_ | refine jB ?_ | refine jX rfl ?_ | refine jY rfl ?_ | refine jK ?_ | refine jD ?_ | refine jE ?_)
        refine Ld.mk (hcm2.out 0 _ rfl) ?_
        repeat (first | refine jC ?_ | refine jN ?_ | refine jS ?_ | refine jR ?_ | refine jT ?_ | refine jB ?_ | refine jX rfl ?_ | refine jY rfl ?_ | refine jK ?_ | refine jD ?_ | refine jE ?_)
        have step : (m.folder = true → (i : Int) < k) → ∀ (j' : Nat) (k' : Int) (m' : Nd), j' < j + 1 → n.kids[j']? = some k' → ts[k'.toNat]? = some m' → m'.folder = true → (i : Int) < k' := fun hmk j' k' m' hj' hk' hm' hf' => by
          by_cases hjj : j' = j
          · subst hjj
            rw [hkj] at hk'; cases hk'
            rw [hm] at hm'; cases hm'
            exact hmk hf'
          · exact hd j' k' m' (by omega) hk' hm' hf'
        refine Br.intro (fun hf => ?_) (fun hf => ?_)
        · repeat (first | refine jC ?_ | refine jN ?_ | refine jS ?_ | refine jR ?_ | refine jT ?_ | refine jB ?_ | refine jX rfl ?_ | refine jY rfl ?_ | refine jK ?_ | refine jD ?_ | refine jE ?_)
          refine Br.intro (fun hle => ?_) (fun hle => ?_)
          · have hle := of_decide_eq_true hle
            repeat (first | refine jC ?_ | refine jN ?_ | refine jS ?_ | refine jR ?_ | refine jT ?_ | refine jB ?_ | refine jX rfl ?_ | refine jY rfl ?_ | refine jK ?_ | refine jD ?_ | refine jE ?_)
            exact EndV.val (by rw [treeB_no fun h' => by have := h'.down i n hu k hkm m hm hf; omega]) hxb
          · have hle := of_decide_eq_false hle
            repeat (first | refine jC ?_ | refine jN ?_ | refine jS ?_ | refine jR ?_ | refine jT ?_ | refine jB ?_ | refine jX rfl ?_ | refine jY rfl ?_ | refine jK ?_ | refine jD ?_ | refine jE ?_)
            refine ⟨I64.mk (by omega), ?_⟩
            repeat (first | refine jC ?_ | refine jN ?_ | refine jS ?_ | refine jR ?_ | refine jT ?_ | refine jB ?_ | refine jX rfl ?_ | refine jY rfl ?_ | refine jK ?_ | refine jD ?_ | refine jE ?_)
            exact ⟨j + 1, ⟨hjl, step fun _ => by omega⟩, by show n.kids.length - (j + 1) < n.kids.length - j; omega, ⟨rfl, rfl, rfl, rfl, rfl, rfl, rfl, rfl, rfl, trivial⟩, trivial, trivial, Ext.refl _⟩
        · repeat (first | refine jC ?_ | refine jN ?_ | refine jS ?_ | refine jR ?_ | refine jT ?_ | refine jB ?_ | refine jX rfl ?_ | refine jY rfl ?_ | refine jK ?_ | refine jD ?_ | refine jE ?_)
          refine ⟨I64.mk (by omega), ?_⟩
          repeat (first | refine jC ?_ | refine jN ?_ | refine jS ?_ | refine jR ?_ | refine jT ?_ | refine jB ?_ | refine jX rfl ?_ | refine jY rfl ?_ | refine jK ?_ | refine jD ?_ | refine jE ?_)
          exact ⟨j + 1, ⟨hjl, step fun e => by rw [e] at hf; cases hf⟩, by show n.kids.length - (j + 1) < n.kids.length - j; omega, ⟨rfl, rfl, rfl, rfl, rfl, rfl, rfl, rfl, rfl, trivial⟩, trivial, trivial, Ext.refl _⟩
      · have hje : j = n.kids.length := by have := of_decide_eq_false hj2; omega
        subst hje
        repeat (first | refine jC ?_ | refine jN ?_ | refine jS ?_ | refine jR ?_ | refine jT ?_ | refine jB ?_ | refine jX rfl ?_ | refine jY rfl ?_ | refine jK ?_ | refine jD ?_ | refine jE ?_)
        refine ⟨I64.mk (by omega), ?_⟩
        repeat (first | refine jC ?_ | refine jN ?_ | refine jS ?_ | refine jR ?_ | refine jT ?_ | refine jB ?_ | refine jX rfl ?_ | refine jY rfl ?_ | refine jK ?_ | refine jD ?_ | refine jE ?_)
        refine ⟨i + 1, ⟨hlt, fun i' hi' => ?_⟩, by show ts.length - (i + 1) < ts.length - i; omega, ⟨rfl, rfl, rfl, rfl, rfl, trivial⟩, trivial, trivial, Ext.refl _⟩
        by_cases hii : i' = i
        · subst hii
          intro n' hn'
          rw [hu] at hn'
          cases hn'
          refine ⟨h5, hq, fun k hk m hm hf => ?_⟩
          obtain ⟨j', hj', rfl⟩ := List.getElem_of_mem hk
          exact hd j' _ m hj' (List.getElem?_eq_getElem hj') hm hf
        · exact hn i' (by omega)
  · have hie : i = ts.length := by have := of_decide_eq_false h; omega
    subst hie
    repeat (first | refine jC ?_ | refine jN ?_ | refine jS ?_ | refine jR ?_ | refine jT ?_ | refine jB ?_ | refine jX rfl ?_ | refine jY rfl ?_ | refine jK ?_ | refine jD ?_ | refine jE ?_)
    exact EndV.val (by rw [treeB_yes (tree_of h1 h2 (fun n hn0 => by rw [h00] at hn0; cases hn0; exact h3) h4 hn)]) hxb
def L6Ok (n : Nd) (many : Int) : Prop := n.Ok ∧ ∀ k ∈ n.kids, 1 ≤ k ∧ k ≤ many - 1
noncomputable def l6B (n : Nd) (many : Int) : Bool := @decide (L6Ok n many) (Classical.propDecidable _)
theorem l6B_yes {n : Nd} {many : Int} (h : L6Ok n many) : l6B n many = true := by unfold l6B; exact @decide_eq_true _ (Classical.propDecidable _) h
theorem l6B_no {n : Nd} {many : Int} (h : ¬ L6Ok n many) : l6B n many = false := by unfold l6B; exact @decide_eq_false _ (Classical.propDecidable _) h
theorem l6B_iff {n : Nd} {many : Int} : l6B n many = true ↔ L6Ok n many := by unfold l6B; exact @decide_eq_true_iff _ (Classical.propDecidable _)
set_option maxHeartbeats 1000000 in
theorem sL6Node_vc (n : Nd) (nv kv : Value) (many : Int) (w : World) (hN : NdIn w n nv kv) (hwf : n.wf) (hm0 : 0 ≤ many) (hm1 : many ≤ 1048576) : Gives Tryz.prog 88 #[n.val nv kv, .int .i64 many] w (.bool (l6B n many)) := by
  have hnl : n.names.length ≤ 9223372036854775807 := by obtain ⟨_, cap, _, h2, h3, _⟩ := hN.1; simp at h2; omega
  obtain ⟨kad, kcap, rfl, hka⟩ := kids_open hN
  obtain ⟨nad, ncap, rfl, hna⟩ := names_open hN
  have hns : ∀ s ∈ n.names, s.size ≤ maxLen := fun s hs => by have := hwf.2.2.2.2.1 s hs; unfold maxLen; omega
  refine calls_of cx_ok Tryz.func88 Tryz.ntmps88 Tryz.results88 rfl rfl ?_
  repeat (first | refine jC ?_ | refine jN ?_ | refine jS ?_ | refine jR ?_ | refine jT ?_ | refine jB ?_ | refine jX rfl ?_ | refine jY rfl ?_ | refine jK ?_ | refine jD ?_ | refine jE ?_)
  intro b hb
  repeat (first | refine jC ?_ | refine jN ?_ | refine jS ?_ | refine jR ?_ | refine jT ?_ | refine jB ?_ | refine jX rfl ?_ | refine jY rfl ?_ | refine jK ?_ | refine jD ?_ | refine jE ?_)
  refine CallV.val (fun w' _ _ => (l1In_any n.owner 0 99 w').of_same) ?_
  repeat (first | refine jC ?_ | refine jN ?_ | refine jS ?_ | refine jR ?_ | refine jT ?_ | refine jB ?_ | refine jX rfl ?_ | refine jY rfl ?_ | refine jK ?_ | refine jD ?_ | refine jE ?_)
  refine Br.intro (fun h1 => ?_) (fun h1 => ?_)
  · repeat (first | refine jC ?_ | refine jN ?_ | refine jS ?_ | refine jR ?_ | refine jT ?_ | refine jB ?_ | refine jX rfl ?_ | refine jY rfl ?_ | refine jK ?_ | refine jD ?_ | refine jE ?_)
    exact EndV.val (by rw [l6B_no fun h => by have := h.1.own; simp [this] at h1]) (Ext.refl _)
  have h1 : inR n.owner 0 99 = true := by simpa using h1
  repeat (first | refine jC ?_ | refine jN ?_ | refine jS ?_ | refine jR ?_ | refine jT ?_ | refine jB ?_ | refine jX rfl ?_ | refine jY rfl ?_ | refine jK ?_ | refine jD ?_ | refine jE ?_)
  refine CallV.val (fun w' _ _ => (l1In_any n.group 0 7 w').of_same) ?_
  repeat (first | refine jC ?_ | refine jN ?_ | refine jS ?_ | refine jR ?_ | refine jT ?_ | refine jB ?_ | refine jX rfl ?_ | refine jY rfl ?_ | refine jK ?_ | refine jD ?_ | refine jE ?_)
  refine Br.intro (fun h2 => ?_) (fun h2 => ?_)
  · repeat (first | refine jC ?_ | refine jN ?_ | refine jS ?_ | refine jR ?_ | refine jT ?_ | refine jB ?_ | refine jX rfl ?_ | refine jY rfl ?_ | refine jK ?_ | refine jD ?_ | refine jE ?_)
    exact EndV.val (by rw [l6B_no fun h => by have := h.1.grp; simp [this] at h2]) (Ext.refl _)
  have h2 : inR n.group 0 7 = true := by simpa using h2
  repeat (first | refine jC ?_ | refine jN ?_ | refine jS ?_ | refine jR ?_ | refine jT ?_ | refine jB ?_ | refine jX rfl ?_ | refine jY rfl ?_ | refine jK ?_ | refine jD ?_ | refine jE ?_)
  refine CallV.val (fun w' _ _ => (l1In_any n.mode 0 1023 w').of_same) ?_
  repeat (first | refine jC ?_ | refine jN ?_ | refine jS ?_ | refine jR ?_ | refine jT ?_ | refine jB ?_ | refine jX rfl ?_ | refine jY rfl ?_ | refine jK ?_ | refine jD ?_ | refine jE ?_)
  refine Br.intro (fun h3 => ?_) (fun h3 => ?_)
  · repeat (first | refine jC ?_ | refine jN ?_ | refine jS ?_ | refine jR ?_ | refine jT ?_ | refine jB ?_ | refine jX rfl ?_ | refine jY rfl ?_ | refine jK ?_ | refine jD ?_ | refine jE ?_)
    exact EndV.val (by rw [l6B_no fun h => by have := h.1.mod; simp [this] at h3]) (Ext.refl _)
  have h3 : inR n.mode 0 1023 = true := by simpa using h3
  repeat (first | refine jC ?_ | refine jN ?_ | refine jS ?_ | refine jR ?_ | refine jT ?_ | refine jB ?_ | refine jX rfl ?_ | refine jY rfl ?_ | refine jK ?_ | refine jD ?_ | refine jE ?_)
  refine Br.intro (fun h4 => ?_) (fun h4 => ?_)
  · repeat (first | refine jC ?_ | refine jN ?_ | refine jS ?_ | refine jR ?_ | refine jT ?_ | refine jB ?_ | refine jX rfl ?_ | refine jY rfl ?_ | refine jK ?_ | refine jD ?_ | refine jE ?_)
    exact EndV.val (by rw [l6B_no fun h => by have := h.1.len; simp [this] at h4]) (Ext.refl _)
  have h4 : n.names.length = n.kids.length := by
    have h4 : (n.names.length : Int) = n.kids.length := by simpa using h4
    omega
  repeat (first | refine jC ?_ | refine jN ?_ | refine jS ?_ | refine jR ?_ | refine jT ?_ | refine jB ?_ | refine jX rfl ?_ | refine jY rfl ?_ | refine jK ?_ | refine jD ?_ | refine jE ?_)
  refine Br.intro (fun hf => ?_) (fun hf => ?_)
  · have hf : n.folder = false := by simpa using hf
    repeat (first | refine jC ?_ | refine jN ?_ | refine jS ?_ | refine jR ?_ | refine jT ?_ | refine jB ?_ | refine jX rfl ?_ | refine jY rfl ?_ | refine jK ?_ | refine jD ?_ | refine jE ?_)
    refine Br.intro (fun h5 => ?_) (fun h5 => ?_)
    · have h5 := of_decide_eq_true h5
      repeat (first | refine jC ?_ | refine jN ?_ | refine jS ?_ | refine jR ?_ | refine jT ?_ | refine jB ?_ | refine jX rfl ?_ | refine jY rfl ?_ | refine jK ?_ | refine jD ?_ | refine jE ?_)
      exact EndV.val (by rw [l6B_no fun h => by have := h.1.file hf; omega]) (Ext.refl _)
    have h5 : n.names.length = 0 := by have := of_decide_eq_false h5; omega
    repeat (first | refine jC ?_ | refine jN ?_ | refine jS ?_ | refine jR ?_ | refine jT ?_ | refine jB ?_ | refine jX rfl ?_ | refine jY rfl ?_ | refine jK ?_ | refine jD ?_ | refine jE ?_)
    refine Br.no hf ?_
    repeat (first | refine jC ?_ | refine jN ?_ | refine jS ?_ | refine jR ?_ | refine jT ?_ | refine jB ?_ | refine jX rfl ?_ | refine jY rfl ?_ | refine jK ?_ | refine jD ?_ | refine jE ?_)
    refine Br.intro (fun h6 => ?_) (fun h6 => ?_)
    · have h6 := of_decide_eq_true h6
      repeat (first | refine jC ?_ | refine jN ?_ | refine jS ?_ | refine jR ?_ | refine jT ?_ | refine jB ?_ | refine jX rfl ?_ | refine jY rfl ?_ | refine jK ?_ | refine jD ?_ | refine jE ?_)
      exact EndV.val (by rw [l6B_no fun h => by have := h.1.txt; omega]) (Ext.refl _)
    have h6 : n.text.size ≤ 40 := by have := of_decide_eq_false h6; omega
    have hrest : n.folder = true → n.text.size = 0 := fun h => by rw [hf] at h; cases h
    have hfile : n.folder = false → n.names.length = 0 := fun _ => h5
    repeat (first | refine jC ?_ | refine jN ?_ | refine jS ?_ | refine jR ?_ | refine jT ?_ | refine jB ?_ | refine jX rfl ?_ | refine jY rfl ?_ | refine jK ?_ | refine jD ?_ | refine jE ?_)
    refine WpC.loop (α := Nat) (fun x => ⟨[(1, .v (.int .i64 many)), (2, .own 0 0), (5, .v (.int .i64 (x : Int)))], [⟨b, n.cells (.slice nad n.names.length ncap) (.slice kad n.kids.length kcap), 52⟩], w⟩)
      (fun x => x ≤ n.names.length ∧ (∀ (i : Nat) (s : ByteArray), i < x → n.names[i]? = some s → nameOk s.data.toList = true) ∧ (∀ (i : Nat) (k : Int), i < x → n.kids[i]? = some k → 1 ≤ k ∧ k ≤ many - 1) ∧ ∀ (i : Nat) (s t : ByteArray), i + 1 < x → n.names[i]? = some s → n.names[i + 1]? = some t → Op.bytesLess s.toList t.toList = true) (fun x => n.names.length - x) 0
      ⟨Nat.zero_le _, fun i s h => absurd h (by omega), fun i k h => absurd h (by omega), fun i s t h => absurd h (by omega)⟩ ⟨⟨rfl, rfl, rfl, trivial⟩, ⟨rfl, trivial⟩, ⟨rfl, trivial⟩, Ext.refl _⟩ ?_
    rintro k ⟨hk, hv, hkd, ha⟩
    repeat (first | refine jC ?_ | refine jN ?_ | refine jS ?_ | refine jR ?_ | refine jT ?_ | refine jB ?_ | refine jX rfl ?_ | refine jY rfl ?_ | refine jK ?_ | refine jD ?_ | refine jE ?_)
    refine Br.intro (fun h => ?_) (fun h => ?_)
    · have hlt : k < n.names.length := by have := of_decide_eq_true h; omega
      obtain ⟨nb, no, rfl, hnb, hnc⟩ := hna (by omega)
      obtain ⟨kb, ko, rfl, hkb, hkc⟩ := hka (by omega)
      have hu : n.names[k]? = some n.names[k] := List.getElem?_eq_getElem hlt
      have hsz := hns _ (List.getElem_mem hlt)
      have hkl : k < n.kids.length := by omega
      have hkk : n.kids[k]? = some n.kids[k] := List.getElem?_eq_getElem hkl
      have hkm := List.getElem_mem hkl
      have hki : (ints n.kids)[k]? = some (.int .i64 n.kids[k]) := by simp [hkl]
      generalize n.names[k] = s at hu hsz
      generalize n.kids[k] = q at hkk hkm hki
      repeat (first | refine jC ?_ | refine jN ?_ | refine jS ?_ | refine jR ?_ | refine jT ?_ | refine jB ?_ | refine jX rfl ?_ | refine jY rfl ?_ | refine jK ?_ | refine jD ?_ | refine jE ?_)
      refine WpC.draw (by kernel_rfl) ?_
      repeat (first | refine jC ?_ | refine jN ?_ | refine jS ?_ | refine jR ?_ | refine jT ?_ | refine jB ?_ | refine jX rfl ?_ | refine jY rfl ?_ | refine jK ?_ | refine jD ?_ | refine jE ?_)
      refine Ix.mk k rfl hlt ?_
      repeat (first | refine jC ?_ | refine jN ?_ | refine jS ?_ | refine jR ?_ | refine jT ?_ | refine jB ?_ | refine jX rfl ?_ | refine jY rfl ?_ | refine jK ?_ | refine jD ?_ | refine jE ?_)
      refine Ld.mk (hnc.out k _ (strs_get hu)) ?_
      repeat (first | refine jC ?_ | refine jN ?_ | refine jS ?_ | refine jR ?_ | refine jT ?_ | refine jB ?_ | refine jX rfl ?_ | refine jY rfl ?_ | refine jK ?_ | refine jD ?_ | refine jE ?_)
      refine QCallV.val (fun w' _ _ => (sNameValid_any s w' hsz).of_same) ?_
      repeat (first | refine jC ?_ | refine jN ?_ | refine jS ?_ | refine jR ?_ | refine jT ?_ | refine jB ?_ | refine jX rfl ?_ | refine jY rfl ?_ | refine jK ?_ | refine jD ?_ | refine jE ?_)
      refine Br.intro (fun h7 => ?_) (fun h7 => ?_)
      · repeat (first | refine jC ?_ | refine jN ?_ | refine jS ?_ | refine jR ?_ | refine jT ?_ | refine jB ?_ | refine jX rfl ?_ | refine jY rfl ?_ | refine jK ?_ | refine jD ?_ | refine jE ?_)
        exact EndV.val (by rw [l6B_no fun h => by have := h.1.val k s hu; simp [this] at h7]) (Ext.refl _)
      have h7 : nameOk s.data.toList = true := by simpa using h7
      have hv' : ∀ (i : Nat) (s : ByteArray), i < k + 1 → n.names[i]? = some s → nameOk s.data.toList = true := fun i s' hi hs' => by
        by_cases hik : i = k
        · subst hik; rw [hu] at hs'; cases hs'; exact h7
        · exact hv i s' (by omega) hs'
      repeat (first | refine jC ?_ | refine jN ?_ | refine jS ?_ | refine jR ?_ | refine jT ?_ | refine jB ?_ | refine jX rfl ?_ | refine jY rfl ?_ | refine jK ?_ | refine jD ?_ | refine jE ?_)
      refine Ix.mk k rfl hkl ?_
      repeat (first | refine jC ?_ | refine jN ?_ | refine jS ?_ | refine jR ?_ | refine jT ?_ | refine jB ?_ | refine jX rfl ?_ | refine jY rfl ?_ | refine jK ?_ | refine jD ?_ | refine jE ?_)
      refine Ld.mk (hkc.out k _ hki) ?_
      repeat (first | refine jC ?_ | refine jN ?_ | refine jS ?_ | refine jR ?_ | refine jT ?_ | refine jB ?_ | refine jX rfl ?_ | refine jY rfl ?_ | refine jK ?_ | refine jD ?_ | refine jE ?_)
      refine ⟨I64.mk (by omega), ?_⟩
      repeat (first | refine jC ?_ | refine jN ?_ | refine jS ?_ | refine jR ?_ | refine jT ?_ | refine jB ?_ | refine jX rfl ?_ | refine jY rfl ?_ | refine jK ?_ | refine jD ?_ | refine jE ?_)
      refine QCallV.val (fun w' _ _ => (l1In_any q 1 (many - 1) w').of_same) ?_
      repeat (first | refine jC ?_ | refine jN ?_ | refine jS ?_ | refine jR ?_ | refine jT ?_ | refine jB ?_ | refine jX rfl ?_ | refine jY rfl ?_ | refine jK ?_ | refine jD ?_ | refine jE ?_)
      refine Br.intro (fun h8 => ?_) (fun h8 => ?_)
      · repeat (first | refine jC ?_ | refine jN ?_ | refine jS ?_ | refine jR ?_ | refine jT ?_ | refine jB ?_ | refine jX rfl ?_ | refine jY rfl ?_ | refine jK ?_ | refine jD ?_ | refine jE ?_)
        exact EndV.val (by rw [l6B_no fun h => by have := h.2 q hkm; simp [inR_iff.2 this] at h8]) (Ext.refl _)
      have h8 : 1 ≤ q ∧ q ≤ many - 1 := inR_iff.1 (by simpa using h8)
      have hkd' : ∀ (i : Nat) (k' : Int), i < k + 1 → n.kids[i]? = some k' → 1 ≤ k' ∧ k' ≤ many - 1 := fun i k' hi hk' => by
        by_cases hik : i = k
        · subst hik; rw [hkk] at hk'; cases hk'; exact h8
        · exact hkd i k' (by omega) hk'
      repeat (first | refine jC ?_ | refine jN ?_ | refine jS ?_ | refine jR ?_ | refine jT ?_ | refine jB ?_ | refine jX rfl ?_ | refine jY rfl ?_ | refine jK ?_ | refine jD ?_ | refine jE ?_)
      refine Br.intro (fun h9 => ?_) (fun h9 => ?_)
      · have hk0 : 0 < k := by have := of_decide_eq_true h9; omega
        have hp : n.names[k - 1]? = some n.names[k - 1] := List.getElem?_eq_getElem (by omega)
        generalize n.names[k - 1] = t at hp
        repeat (first | refine jC ?_ | refine jN ?_ | refine jS ?_ | refine jR ?_ | refine jT ?_ | refine jB ?_ | refine jX rfl ?_ | refine jY rfl ?_ | refine jK ?_ | refine jD ?_ | refine jE ?_)
        refine Ix.mk k rfl hlt ?_
        repeat (first | refine jC ?_ | refine jN ?_ | refine jS ?_ | refine jR ?_ | refine jT ?_ | refine jB ?_ | refine jX rfl ?_ | refine jY rfl ?_ | refine jK ?_ | refine jD ?_ | refine jE ?_)
        refine Ld.mk (hnc.out k _ (strs_get hu)) ?_
        repeat (first | refine jC ?_ | refine jN ?_ | refine jS ?_ | refine jR ?_ | refine jT ?_ | refine jB ?_ | refine jX rfl ?_ | refine jY rfl ?_ | refine jK ?_ | refine jD ?_ | refine jE ?_)
        refine ⟨I64.mk (by omega), ?_⟩
        repeat (first | refine jC ?_ | refine jN ?_ | refine jS ?_ | refine jR ?_ | refine jT ?_ | refine jB ?_ | refine jX rfl ?_ | refine jY rfl ?_ | refine jK ?_ | refine jD ?_ | refine jE ?_)
        refine Ix.mk (k - 1) (by omega) (by omega) ?_
        repeat (first | refine jC ?_ | refine jN ?_ | refine jS ?_ | refine jR ?_ | refine jT ?_ | refine jB ?_ | refine jX rfl ?_ | refine jY rfl ?_ | refine jK ?_ | refine jD ?_ | refine jE ?_)
        refine Ld.mk (hnc.out (k - 1) _ (strs_get hp)) ?_
        repeat (first | refine jC ?_ | refine jN ?_ | refine jS ?_ | refine jR ?_ | refine jT ?_ | refine jB ?_ | refine jX rfl ?_ | refine jY rfl ?_ | refine jK ?_ | refine jD ?_ | refine jE ?_)
        refine Br.intro (fun h10 => ?_) (fun h10 => ?_)
        · repeat (first | refine jC ?_ | refine jN ?_ | refine jS ?_ | refine jR ?_ | refine jT ?_ | refine jB ?_ | refine jX rfl ?_ | refine jY rfl ?_ | refine jK ?_ | refine jD ?_ | refine jE ?_)
          exact EndV.val (by
            rw [l6B_no fun h => by
              have := bl_asymm _ _ (h.1.asc (k - 1) t s hp (by rw [show k - 1 + 1 = k by omega]; exact hu))
              rw [this.1, this.2] at h10
              cases h10]) (Ext.refl _)
        · have h10 : Op.bytesLess t.toList s.toList = true := by
            cases hbl : Op.bytesLess t.toList s.toList with
            | true => rfl
            | false => rw [bl_total _ _ hbl] at h10; cases h10
          repeat (first | refine jC ?_ | refine jN ?_ | refine jS ?_ | refine jR ?_ | refine jT ?_ | refine jB ?_ | refine jX rfl ?_ | refine jY rfl ?_ | refine jK ?_ | refine jD ?_ | refine jE ?_)
          refine ⟨I64.mk (by omega), ?_⟩
          repeat (first | refine jC ?_ | refine jN ?_ | refine jS ?_ | refine jR ?_ | refine jT ?_ | refine jB ?_ | refine jX rfl ?_ | refine jY rfl ?_ | refine jK ?_ | refine jD ?_ | refine jE ?_)
          refine ⟨k + 1, ⟨hlt, hv', hkd', fun i s' t' hi hs' ht' => ?_⟩, by show n.names.length - (k + 1) < n.names.length - k; omega, ⟨rfl, rfl, rfl, trivial⟩, ⟨rfl, trivial⟩, ⟨rfl, trivial⟩, Ext.refl _⟩
          by_cases hik : i + 1 = k
          · subst hik
            rw [hu] at ht'; cases ht'
            rw [show i + 1 - 1 = i by omega, hs'] at hp
            cases hp
            exact h10
          · exact ha i s' t' (by omega) hs' ht'
      · have hk0 : k = 0 := by have := of_decide_eq_false h9; omega
        repeat (first | refine jC ?_ | refine jN ?_ | refine jS ?_ | refine jR ?_ | refine jT ?_ | refine jB ?_ | refine jX rfl ?_ | refine jY rfl ?_ | refine jK ?_ | refine jD ?_ | refine jE ?_)
        refine ⟨I64.mk (by omega), ?_⟩
        repeat (first | refine jC ?_ | refine jN ?_ | refine jS ?_ | refine jR ?_ | refine jT ?_ | refine jB ?_ | refine jX rfl ?_ | refine jY rfl ?_ | refine jK ?_ | refine jD ?_ | refine jE ?_)
        exact ⟨k + 1, ⟨hlt, hv', hkd', fun i s' t' hi => absurd hi (by omega)⟩, by show n.names.length - (k + 1) < n.names.length - k; omega, ⟨rfl, rfl, rfl, trivial⟩, ⟨rfl, trivial⟩, ⟨rfl, trivial⟩, Ext.refl _⟩
    · have hke : k = n.names.length := by have := of_decide_eq_false h; omega
      subst hke
      repeat (first | refine jC ?_ | refine jN ?_ | refine jS ?_ | refine jR ?_ | refine jT ?_ | refine jB ?_ | refine jX rfl ?_ | refine jY rfl ?_ | refine jK ?_ | refine jD ?_ | refine jE ?_)
      refine EndV.val ?_ (Ext.refl _)
      rw [l6B_yes ⟨⟨h1, h2, h3, h4, hfile, hrest, h6, fun i s hs => hv i s (List.getElem?_eq_some_iff.1 hs).1 hs, fun i s t hs ht => ha i s t (List.getElem?_eq_some_iff.1 ht).1 hs ht⟩, fun k hk => ?_⟩]
      obtain ⟨j', hj', rfl⟩ := List.getElem_of_mem hk
      exact hkd j' _ (by omega) (List.getElem?_eq_getElem hj')
  · have hf : n.folder = true := by simpa using hf
    repeat (first | refine jC ?_ | refine jN ?_ | refine jS ?_ | refine jR ?_ | refine jT ?_ | refine jB ?_ | refine jX rfl ?_ | refine jY rfl ?_ | refine jK ?_ | refine jD ?_ | refine jE ?_)
    refine Br.yes hf ?_
    repeat (first | refine jC ?_ | refine jN ?_ | refine jS ?_ | refine jR ?_ | refine jT ?_ | refine jB ?_ | refine jX rfl ?_ | refine jY rfl ?_ | refine jK ?_ | refine jD ?_ | refine jE ?_)
    refine Br.intro (fun h5 => ?_) (fun h5 => ?_)
    · repeat (first | refine jC ?_ | refine jN ?_ | refine jS ?_ | refine jR ?_ | refine jT ?_ | refine jB ?_ | refine jX rfl ?_ | refine jY rfl ?_ | refine jK ?_ | refine jD ?_ | refine jE ?_)
      exact EndV.val (by rw [l6B_no fun h => by have := h.1.dir hf; rw [empty_text] at h5; simp [this] at h5]) (Ext.refl _)
    have h5 : n.text.size = 0 := by rw [empty_text] at h5; simpa using h5
    repeat (first | refine jC ?_ | refine jN ?_ | refine jS ?_ | refine jR ?_ | refine jT ?_ | refine jB ?_ | refine jX rfl ?_ | refine jY rfl ?_ | refine jK ?_ | refine jD ?_ | refine jE ?_)
    refine Br.intro (fun h6 => absurd (of_decide_eq_true h6) (by omega)) (fun h6 => ?_)
    have h6 : n.text.size ≤ 40 := by omega
    have hrest : n.folder = true → n.text.size = 0 := fun _ => h5
    have hfile : n.folder = false → n.names.length = 0 := fun h => by rw [hf] at h; cases h
    repeat (first | refine jC ?_ | refine jN ?_ | refine jS ?_ | refine jR ?_ | refine jT ?_ | refine jB ?_ | refine jX rfl ?_ | refine jY rfl ?_ | refine jK ?_ | refine jD ?_ | refine jE ?_)
    refine WpC.loop (α := Nat) (fun x => ⟨[(1, .v (.int .i64 many)), (2, .own 0 0), (5, .v (.int .i64 (x : Int)))], [⟨b, n.cells (.slice nad n.names.length ncap) (.slice kad n.kids.length kcap), 52⟩], w⟩)
      (fun x => x ≤ n.names.length ∧ (∀ (i : Nat) (s : ByteArray), i < x → n.names[i]? = some s → nameOk s.data.toList = true) ∧ (∀ (i : Nat) (k : Int), i < x → n.kids[i]? = some k → 1 ≤ k ∧ k ≤ many - 1) ∧ ∀ (i : Nat) (s t : ByteArray), i + 1 < x → n.names[i]? = some s → n.names[i + 1]? = some t → Op.bytesLess s.toList t.toList = true) (fun x => n.names.length - x) 0
      ⟨Nat.zero_le _, fun i s h => absurd h (by omega), fun i k h => absurd h (by omega), fun i s t h => absurd h (by omega)⟩ ⟨⟨rfl, rfl, rfl, trivial⟩, ⟨rfl, trivial⟩, ⟨rfl, trivial⟩, Ext.refl _⟩ ?_
    rintro k ⟨hk, hv, hkd, ha⟩
    repeat (first | refine jC ?_ | refine jN ?_ | refine jS ?_ | refine jR ?_ | refine jT ?_ | refine jB ?_ | refine jX rfl ?_ | refine jY rfl ?_ | refine jK ?_ | refine jD ?_ | refine jE ?_)
    refine Br.intro (fun h => ?_) (fun h => ?_)
    · have hlt : k < n.names.length := by have := of_decide_eq_true h; omega
      obtain ⟨nb, no, rfl, hnb, hnc⟩ := hna (by omega)
      obtain ⟨kb, ko, rfl, hkb, hkc⟩ := hka (by omega)
      have hu : n.names[k]? = some n.names[k] := List.getElem?_eq_getElem hlt
      have hsz := hns _ (List.getElem_mem hlt)
      have hkl : k < n.kids.length := by omega
      have hkk : n.kids[k]? = some n.kids[k] := List.getElem?_eq_getElem hkl
      have hkm := List.getElem_mem hkl
      have hki : (ints n.kids)[k]? = some (.int .i64 n.kids[k]) := by simp [hkl]
      generalize n.names[k] = s at hu hsz
      generalize n.kids[k] = q at hkk hkm hki
      repeat (first | refine jC ?_ | refine jN ?_ | refine jS ?_ | refine jR ?_ | refine jT ?_ | refine jB ?_ | refine jX rfl ?_ | refine jY rfl ?_ | refine jK ?_ | refine jD ?_ | refine jE ?_)
      refine WpC.draw (by kernel_rfl) ?_
      repeat (first | refine jC ?_ | refine jN ?_ | refine jS ?_ | refine jR ?_ | refine jT ?_ | refine jB ?_ | refine jX rfl ?_ | refine jY rfl ?_ | refine jK ?_ | refine jD ?_ | refine jE ?_)
      refine Ix.mk k rfl hlt ?_
      repeat (first | refine jC ?_ | refine jN ?_ | refine jS ?_ | refine jR ?_ | refine jT ?_ | refine jB ?_ | refine jX rfl ?_ | refine jY rfl ?_ | refine jK ?_ | refine jD ?_ | refine jE ?_)
      refine Ld.mk (hnc.out k _ (strs_get hu)) ?_
      repeat (first | refine jC ?_ | refine jN ?_ | refine jS ?_ | refine jR ?_ | refine jT ?_ | refine jB ?_ | refine jX rfl ?_ | refine jY rfl ?_ | refine jK ?_ | refine jD ?_ | refine jE ?_)
      refine QCallV.val (fun w' _ _ => (sNameValid_any s w' hsz).of_same) ?_
      repeat (first | refine jC ?_ | refine jN ?_ | refine jS ?_ | refine jR ?_ | refine jT ?_ | refine jB ?_ | refine jX rfl ?_ | refine jY rfl ?_ | refine jK ?_ | refine jD ?_ | refine jE ?_)
      refine Br.intro (fun h7 => ?_) (fun h7 => ?_)
      · repeat (first | refine jC ?_ | refine jN ?_ | refine jS ?_ | refine jR ?_ | refine jT ?_ | refine jB ?_ | refine jX rfl ?_ | refine jY rfl ?_ | refine jK ?_ | refine jD ?_ | refine jE ?_)
        exact EndV.val (by rw [l6B_no fun h => by have := h.1.val k s hu; simp [this] at h7]) (Ext.refl _)
      have h7 : nameOk s.data.toList = true := by simpa using h7
      have hv' : ∀ (i : Nat) (s : ByteArray), i < k + 1 → n.names[i]? = some s → nameOk s.data.toList = true := fun i s' hi hs' => by
        by_cases hik : i = k
        · subst hik; rw [hu] at hs'; cases hs'; exact h7
        · exact hv i s' (by omega) hs'
      repeat (first | refine jC ?_ | refine jN ?_ | refine jS ?_ | refine jR ?_ | refine jT ?_ | refine jB ?_ | refine jX rfl ?_ | refine jY rfl ?_ | refine jK ?_ | refine jD ?_ | refine jE ?_)
      refine Ix.mk k rfl hkl ?_
      repeat (first | refine jC ?_ | refine jN ?_ | refine jS ?_ | refine jR ?_ | refine jT ?_ | refine jB ?_ | refine jX rfl ?_ | refine jY rfl ?_ | refine jK ?_ | refine jD ?_ | refine jE ?_)
      refine Ld.mk (hkc.out k _ hki) ?_
      repeat (first | refine jC ?_ | refine jN ?_ | refine jS ?_ | refine jR ?_ | refine jT ?_ | refine jB ?_ | refine jX rfl ?_ | refine jY rfl ?_ | refine jK ?_ | refine jD ?_ | refine jE ?_)
      refine ⟨I64.mk (by omega), ?_⟩
      repeat (first | refine jC ?_ | refine jN ?_ | refine jS ?_ | refine jR ?_ | refine jT ?_ | refine jB ?_ | refine jX rfl ?_ | refine jY rfl ?_ | refine jK ?_ | refine jD ?_ | refine jE ?_)
      refine QCallV.val (fun w' _ _ => (l1In_any q 1 (many - 1) w').of_same) ?_
      repeat (first | refine jC ?_ | refine jN ?_ | refine jS ?_ | refine jR ?_ | refine jT ?_ | refine jB ?_ | refine jX rfl ?_ | refine jY rfl ?_ | refine jK ?_ | refine jD ?_ | refine jE ?_)
      refine Br.intro (fun h8 => ?_) (fun h8 => ?_)
      · repeat (first | refine jC ?_ | refine jN ?_ | refine jS ?_ | refine jR ?_ | refine jT ?_ | refine jB ?_ | refine jX rfl ?_ | refine jY rfl ?_ | refine jK ?_ | refine jD ?_ | refine jE ?_)
        exact EndV.val (by rw [l6B_no fun h => by have := h.2 q hkm; simp [inR_iff.2 this] at h8]) (Ext.refl _)
      have h8 : 1 ≤ q ∧ q ≤ many - 1 := inR_iff.1 (by simpa using h8)
      have hkd' : ∀ (i : Nat) (k' : Int), i < k + 1 → n.kids[i]? = some k' → 1 ≤ k' ∧ k' ≤ many - 1 := fun i k' hi hk' => by
        by_cases hik : i = k
        · subst hik; rw [hkk] at hk'; cases hk'; exact h8
        · exact hkd i k' (by omega) hk'
      repeat (first | refine jC ?_ | refine jN ?_ | refine jS ?_ | refine jR ?_ | refine jT ?_ | refine jB ?_ | refine jX rfl ?_ | refine jY rfl ?_ | refine jK ?_ | refine jD ?_ | refine jE ?_)
      refine Br.intro (fun h9 => ?_) (fun h9 => ?_)
      · have hk0 : 0 < k := by have := of_decide_eq_true h9; omega
        have hp : n.names[k - 1]? = some n.names[k - 1] := List.getElem?_eq_getElem (by omega)
        generalize n.names[k - 1] = t at hp
        repeat (first | refine jC ?_ | refine jN ?_ | refine jS ?_ | refine jR ?_ | refine jT ?_ | refine jB ?_ | refine jX rfl ?_ | refine jY rfl ?_ | refine jK ?_ | refine jD ?_ | refine jE ?_)
        refine Ix.mk k rfl hlt ?_
        repeat (first | refine jC ?_ | refine jN ?_ | refine jS ?_ | refine jR ?_ | refine jT ?_ | refine jB ?_ | refine jX rfl ?_ | refine jY rfl ?_ | refine jK ?_ | refine jD ?_ | refine jE ?_)
        refine Ld.mk (hnc.out k _ (strs_get hu)) ?_
        repeat (first | refine jC ?_ | refine jN ?_ | refine jS ?_ | refine jR ?_ | refine jT ?_ | refine jB ?_ | refine jX rfl ?_ | refine jY rfl ?_ | refine jK ?_ | refine jD ?_ | refine jE ?_)
        refine ⟨I64.mk (by omega), ?_⟩
        repeat (first | refine jC ?_ | refine jN ?_ | refine jS ?_ | refine jR ?_ | refine jT ?_ | refine jB ?_ | refine jX rfl ?_ | refine jY rfl ?_ | refine jK ?_ | refine jD ?_ | refine jE ?_)
        refine Ix.mk (k - 1) (by omega) (by omega) ?_
        repeat (first | refine jC ?_ | refine jN ?_ | refine jS ?_ | refine jR ?_ | refine jT ?_ | refine jB ?_ | refine jX rfl ?_ | refine jY rfl ?_ | refine jK ?_ | refine jD ?_ | refine jE ?_)
        refine Ld.mk (hnc.out (k - 1) _ (strs_get hp)) ?_
        repeat (first | refine jC ?_ | refine jN ?_ | refine jS ?_ | refine jR ?_ | refine jT ?_ | refine jB ?_ | refine jX rfl ?_ | refine jY rfl ?_ | refine jK ?_ | refine jD ?_ | refine jE ?_)
        refine Br.intro (fun h10 => ?_) (fun h10 => ?_)
        · repeat (first | refine jC ?_ | refine jN ?_ | refine jS ?_ | refine jR ?_ | refine jT ?_ | refine jB ?_ | refine jX rfl ?_ | refine jY rfl ?_ | refine jK ?_ | refine jD ?_ | refine jE ?_)
          exact EndV.val (by
            rw [l6B_no fun h => by
              have := bl_asymm _ _ (h.1.asc (k - 1) t s hp (by rw [show k - 1 + 1 = k by omega]; exact hu))
              rw [this.1, this.2] at h10
              cases h10]) (Ext.refl _)
        · have h10 : Op.bytesLess t.toList s.toList = true := by
            cases hbl : Op.bytesLess t.toList s.toList with
            | true => rfl
            | false => rw [bl_total _ _ hbl] at h10; cases h10
          repeat (first | refine jC ?_ | refine jN ?_ | refine jS ?_ | refine jR ?_ | refine jT ?_ | refine jB ?_ | refine jX rfl ?_ | refine jY rfl ?_ | refine jK ?_ | refine jD ?_ | refine jE ?_)
          refine ⟨I64.mk (by omega), ?_⟩
          repeat (first | refine jC ?_ | refine jN ?_ | refine jS ?_ | refine jR ?_ | refine jT ?_ | refine jB ?_ | refine jX rfl ?_ | refine jY rfl ?_ | refine jK ?_ | refine jD ?_ | refine jE ?_)
          refine ⟨k + 1, ⟨hlt, hv', hkd', fun i s' t' hi hs' ht' => ?_⟩, by show n.names.length - (k + 1) < n.names.length - k; omega, ⟨rfl, rfl, rfl, trivial⟩, ⟨rfl, trivial⟩, ⟨rfl, trivial⟩, Ext.refl _⟩
          by_cases hik : i + 1 = k
          · subst hik
            rw [hu] at ht'; cases ht'
            rw [show i + 1 - 1 = i by omega, hs'] at hp
            cases hp
            exact h10
          · exact ha i s' t' (by omega) hs' ht'
      · have hk0 : k = 0 := by have := of_decide_eq_false h9; omega
        repeat (first | refine jC ?_ | refine jN ?_ | refine jS ?_ | refine jR ?_ | refine jT ?_ | refine jB ?_ | refine jX rfl ?_ | refine jY rfl ?_ | refine jK ?_ | refine jD ?_ | refine jE ?_)
        refine ⟨I64.mk (by omega), ?_⟩
        repeat (first | refine jC ?_ | refine jN ?_ | refine jS ?_ | refine jR ?_ | refine jT ?_ | refine jB ?_ | refine jX rfl ?_ | refine jY rfl ?_ | refine jK ?_ | refine jD ?_ | refine jE ?_)
        exact ⟨k + 1, ⟨hlt, hv', hkd', fun i s' t' hi => absurd hi (by omega)⟩, by show n.names.length - (k + 1) < n.names.length - k; omega, ⟨rfl, rfl, rfl, trivial⟩, ⟨rfl, trivial⟩, ⟨rfl, trivial⟩, Ext.refl _⟩
    · have hke : k = n.names.length := by have := of_decide_eq_false h; omega
      subst hke
      repeat (first | refine jC ?_ | refine jN ?_ | refine jS ?_ | refine jR ?_ | refine jT ?_ | refine jB ?_ | refine jX rfl ?_ | refine jY rfl ?_ | refine jK ?_ | refine jD ?_ | refine jE ?_)
      refine EndV.val ?_ (Ext.refl _)
      rw [l6B_yes ⟨⟨h1, h2, h3, h4, hfile, hrest, h6, fun i s hs => hv i s (List.getElem?_eq_some_iff.1 hs).1 hs, fun i s t hs ht => ha i s t (List.getElem?_eq_some_iff.1 ht).1 hs ht⟩, fun k hk => ?_⟩]
      obtain ⟨j', hj', rfl⟩ := List.getElem_of_mem hk
      exact hkd j' _ (by omega) (List.getElem?_eq_getElem hj')
def SAt (ts : List Nd) (i : Nat) : Prop := ∀ n : Nd, ts[i]? = some n → L6Ok n ts.length ∧ ∀ k ∈ n.kids, ∀ m : Nd, ts[k.toNat]? = some m → m.folder = true → (i : Int) < k
def LAt (ts : List Nd) (i : Nat) : Prop := 1 ≤ i → ∀ n : Nd, ts[i]? = some n → 1 ≤ (linksOf ts).getD i 0 ∧ (n.folder = true → (linksOf ts).getD i 0 ≤ 1)
theorem sTree_of {ts : List Nd} (h1 : 1 ≤ ts.length) (h2 : ts.length ≤ 16) (h3 : ∀ n : Nd, ts[0]? = some n → n.folder = true) (h4 : ∀ i, i < ts.length → SAt ts i) (h5 : ∀ i, i < ts.length → LAt ts i) : TreeOk ts := by
  have lt : ∀ (i : Nat) (n : Nd), ts[i]? = some n → i < ts.length := fun i n h => (List.getElem?_eq_some_iff.1 h).1
  exact ⟨h1, h2, h3, fun i n h => (h4 i (lt i n h) n h).1.1, fun i n h k hk => (h4 i (lt i n h) n h).1.2 k hk, fun i n h => (h4 i (lt i n h) n h).2, fun i n hi h => (h5 i (lt i n h) hi n h).1, fun i n hi h => (h5 i (lt i n h) hi n h).2⟩
set_option maxHeartbeats 1000000 in
theorem sTreeValid_vc (ts : List Nd) (v : Value) (w : World) (hT : Tree w v ts) (hs : Sized ts) (hwf : ∀ n ∈ ts, n.wf) : Gives Tryz.prog 54 #[v] w (.bool (treeB ts)) := by
  have hl := hs.1
  have hT0 := hT
  obtain ⟨ad, cap, rfl, hlc, hcm, hat⟩ := hT
  refine calls_of cx_ok Tryz.func54 Tryz.ntmps54 Tryz.results54 rfl rfl ?_
  repeat (first | refine jC ?_ | refine jN ?_ | refine jS ?_ | refine jR ?_ | refine jT ?_ | refine jB ?_ | refine jX rfl ?_ | refine jY rfl ?_ | refine jK ?_ | refine jD ?_ | refine jE ?_)
  refine CallV.val (fun w' _ _ => (l1In_any ts.length 1 16 w').of_same) ?_
  repeat (first | refine jC ?_ | refine jN ?_ | refine jS ?_ | refine jR ?_ | refine jT ?_ | refine jB ?_ | refine jX rfl ?_ | refine jY rfl ?_ | refine jK ?_ | refine jD ?_ | refine jE ?_)
  refine Br.intro (fun h => ?_) (fun h => ?_)
  · repeat (first | refine jC ?_ | refine jN ?_ | refine jS ?_ | refine jR ?_ | refine jT ?_ | refine jB ?_ | refine jX rfl ?_ | refine jY rfl ?_ | refine jK ?_ | refine jD ?_ | refine jE ?_)
    exact EndV.val (by rw [treeB_no fun h' => by rw [inR_yes (by have := h'.lo; omega) (by have := h'.hi; omega)] at h; cases h]) (Ext.refl _)
  have h12 : (1 : Int) ≤ ts.length ∧ (ts.length : Int) ≤ 16 := inR_iff.1 (by simpa using h)
  have h1 : 1 ≤ ts.length := by omega
  obtain ⟨b, o, rfl, hb, hc⟩ := hat (by omega)
  have h00 : ts[0]? = some ts[0] := List.getElem?_eq_getElem (by omega)
  generalize ts[0] = n0 at h00
  obtain ⟨nv0, kv0, hc0, _⟩ := hc 0 n0 h00
  repeat (first | refine jC ?_ | refine jN ?_ | refine jS ?_ | refine jR ?_ | refine jT ?_ | refine jB ?_ | refine jX rfl ?_ | refine jY rfl ?_ | refine jK ?_ | refine jD ?_ | refine jE ?_)
  refine Ix.mk 0 rfl (by omega) ?_
  repeat (first | refine jC ?_ | refine jN ?_ | refine jS ?_ | refine jR ?_ | refine jT ?_ | refine jB ?_ | refine jX rfl ?_ | refine jY rfl ?_ | refine jK ?_ | refine jD ?_ | refine jE ?_)
  refine Ld.mk (hc0.out 0 _ rfl) ?_
  repeat (first | refine jC ?_ | refine jN ?_ | refine jS ?_ | refine jR ?_ | refine jT ?_ | refine jB ?_ | refine jX rfl ?_ | refine jY rfl ?_ | refine jK ?_ | refine jD ?_ | refine jE ?_)
  refine Br.intro (fun h => ?_) (fun h => ?_)
  · have h : n0.folder = false := by simpa using h
    repeat (first | refine jC ?_ | refine jN ?_ | refine jS ?_ | refine jR ?_ | refine jT ?_ | refine jB ?_ | refine jX rfl ?_ | refine jY rfl ?_ | refine jK ?_ | refine jD ?_ | refine jE ?_)
    exact EndV.val (by rw [treeB_no fun h' => by have := h'.root n0 h00; rw [h] at this; cases this]) (Ext.refl _)
  have h3 : n0.folder = true := by simpa using h
  repeat (first | refine jC ?_ | refine jN ?_ | refine jS ?_ | refine jR ?_ | refine jT ?_ | refine jB ?_ | refine jX rfl ?_ | refine jY rfl ?_ | refine jK ?_ | refine jD ?_ | refine jE ?_)
  refine WpC.loop (α := Nat) (fun x => ⟨[(0, .v (.slice (some ⟨b, o, none⟩) ts.length cap)), (3, .v (.int .i64 (x : Int)))], [], w⟩)
    (fun x => x ≤ ts.length ∧ ∀ i, i < x → SAt ts i) (fun x => ts.length - x) 0 ⟨Nat.zero_le _, fun i h => absurd h (by omega)⟩ ⟨⟨rfl, rfl, trivial⟩, trivial, trivial, Ext.refl _⟩ ?_
  rintro i ⟨hi, hn⟩
  repeat (first | refine jC ?_ | refine jN ?_ | refine jS ?_ | refine jR ?_ | refine jT ?_ | refine jB ?_ | refine jX rfl ?_ | refine jY rfl ?_ | refine jK ?_ | refine jD ?_ | refine jE ?_)
  refine Br.intro (fun h => ?_) (fun h => ?_)
  · have hlt : i < ts.length := by have := of_decide_eq_true h; omega
    have hu : ts[i]? = some ts[i] := List.getElem?_eq_getElem hlt
    have hw := hwf _ (List.getElem_mem hlt)
    have hsn := (hs.2 _ (List.getElem_mem hlt)).2
    generalize ts[i] = n at hu hw hsn
    obtain ⟨nv, kv, hcn, hN⟩ := hc i n hu
    have hN' := hN
    obtain ⟨kad, kcap, rfl, hka⟩ := kids_open hN
    obtain ⟨nad, ncap, rfl, hna⟩ := names_open hN
    repeat (first | refine jC ?_ | refine jN ?_ | refine jS ?_ | refine jR ?_ | refine jT ?_ | refine jB ?_ | refine jX rfl ?_ | refine jY rfl ?_ | refine jK ?_ | refine jD ?_ | refine jE ?_)
    refine Ix.mk i rfl hlt ?_
    repeat (first | refine jC ?_ | refine jN ?_ | refine jS ?_ | refine jR ?_ | refine jT ?_ | refine jB ?_ | refine jX rfl ?_ | refine jY rfl ?_ | refine jK ?_ | refine jD ?_ | refine jE ?_)
    refine LdN.mk hcn rfl ?_
    repeat (first | refine jC ?_ | refine jN ?_ | refine jS ?_ | refine jR ?_ | refine jT ?_ | refine jB ?_ | refine jX rfl ?_ | refine jY rfl ?_ | refine jK ?_ | refine jD ?_ | refine jE ?_)
    refine CallV.val (fun w' hw' _ => sL6Node_vc n _ _ ts.length w' (hN'.ext hw') hw (by omega) (by omega)) ?_
    repeat (first | refine jC ?_ | refine jN ?_ | refine jS ?_ | refine jR ?_ | refine jT ?_ | refine jB ?_ | refine jX rfl ?_ | refine jY rfl ?_ | refine jK ?_ | refine jD ?_ | refine jE ?_)
    refine Br.intro (fun h5 => ?_) (fun h5 => ?_)
    · have h5 : l6B n ts.length = false := by simpa using h5
      repeat (first | refine jC ?_ | refine jN ?_ | refine jS ?_ | refine jR ?_ | refine jT ?_ | refine jB ?_ | refine jX rfl ?_ | refine jY rfl ?_ | refine jK ?_ | refine jD ?_ | refine jE ?_)
      exact EndV.val (by rw [treeB_no fun h' => by rw [l6B_yes ⟨h'.nodes i n hu, fun k hk => h'.kids i n hu k hk⟩] at h5; cases h5]) (Ext.refl _)
    have h5 : L6Ok n ts.length := l6B_iff.1 (by simpa using h5)
    repeat (first | refine jC ?_ | refine jN ?_ | refine jS ?_ | refine jR ?_ | refine jT ?_ | refine jB ?_ | refine jX rfl ?_ | refine jY rfl ?_ | refine jK ?_ | refine jD ?_ | refine jE ?_)
    refine WpC.loop (α := Nat) (fun x => ⟨[(0, .v (.slice (some ⟨b, o, none⟩) ts.length cap)), (3, .v (.int .i64 (i : Int))), (4, .v (.int .i64 (x : Int)))], [], w⟩)
      (fun x => x ≤ n.kids.length ∧ ∀ (j : Nat) (k : Int) (m : Nd), j < x → n.kids[j]? = some k → ts[k.toNat]? = some m → m.folder = true → (i : Int) < k) (fun x => n.kids.length - x) 0 ⟨Nat.zero_le _, fun j k m h => absurd h (by omega)⟩ ⟨⟨rfl, rfl, rfl, trivial⟩, trivial, trivial, Ext.refl _⟩ ?_
    rintro j ⟨hj, hd⟩
    repeat (first | refine jC ?_ | refine jN ?_ | refine jS ?_ | refine jR ?_ | refine jT ?_ | refine jB ?_ | refine jX rfl ?_ | refine jY rfl ?_ | refine jK ?_ | refine jD ?_ | refine jE ?_)
    refine Ix.mk i rfl hlt ?_
    repeat (first | refine jC ?_ | refine jN ?_ | refine jS ?_ | refine jR ?_ | refine jT ?_ | refine jB ?_ | refine jX rfl ?_ | refine jY rfl ?_ | refine jK ?_ | refine jD ?_ | refine jE ?_)
    refine Ld.mk (hcn.out 6 _ rfl) ?_
    repeat (first | refine jC ?_ | refine jN ?_ | refine jS ?_ | refine jR ?_ | refine jT ?_ | refine jB ?_ | refine jX rfl ?_ | refine jY rfl ?_ | refine jK ?_ | refine jD ?_ | refine jE ?_)
    refine Br.intro (fun hj2 => ?_) (fun hj2 => ?_)
    · have hjl : j < n.kids.length := by have := of_decide_eq_true hj2; omega
      obtain ⟨kb, ko, rfl, hkb, hkc⟩ := hka (by omega)
      have hkj : n.kids[j]? = some n.kids[j] := List.getElem?_eq_getElem hjl
      have hkm := List.getElem_mem hjl
      have hk : (ints n.kids)[j]? = some (.int .i64 n.kids[j]) := by simp [hjl]
      generalize n.kids[j] = k at hkj hkm hk
      have hkb2 := h5.2 k hkm
      have hkl : k.toNat < ts.length := by omega
      have hm : ts[k.toNat]? = some ts[k.toNat] := List.getElem?_eq_getElem hkl
      generalize ts[k.toNat] = m at hm
      obtain ⟨mnv, mkv, hcm2, _⟩ := hc k.toNat m hm
      have step : (m.folder = true → (i : Int) < k) → ∀ (j' : Nat) (k' : Int) (m' : Nd), j' < j + 1 → n.kids[j']? = some k' → ts[k'.toNat]? = some m' → m'.folder = true → (i : Int) < k' := fun hmk j' k' m' hj' hk' hm' hf' => by
        by_cases hjj : j' = j
        · subst hjj
          rw [hkj] at hk'; cases hk'
          rw [hm] at hm'; cases hm'
          exact hmk hf'
        · exact hd j' k' m' (by omega) hk' hm' hf'
      repeat (first | refine jC ?_ | refine jN ?_ | refine jS ?_ | refine jR ?_ | refine jT ?_ | refine jB ?_ | refine jX rfl ?_ | refine jY rfl ?_ | refine jK ?_ | refine jD ?_ | refine jE ?_)
      refine Ix.mk i rfl hlt ?_
      repeat (first | refine jC ?_ | refine jN ?_ | refine jS ?_ | refine jR ?_ | refine jT ?_ | refine jB ?_ | refine jX rfl ?_ | refine jY rfl ?_ | refine jK ?_ | refine jD ?_ | refine jE ?_)
      refine Ld.mk (hcn.out 6 _ rfl) ?_
      repeat (first | refine jC ?_ | refine jN ?_ | refine jS ?_ | refine jR ?_ | refine jT ?_ | refine jB ?_ | refine jX rfl ?_ | refine jY rfl ?_ | refine jK ?_ | refine jD ?_ | refine jE ?_)
      refine Ix.mk j rfl hjl ?_
      repeat (first | refine jC ?_ | refine jN ?_ | refine jS ?_ | refine jR ?_ | refine jT ?_ | refine jB ?_ | refine jX rfl ?_ | refine jY rfl ?_ | refine jK ?_ | refine jD ?_ | refine jE ?_)
      refine Ld.mk (hkc.out j _ hk) ?_
      repeat (first | refine jC ?_ | refine jN ?_ | refine jS ?_ | refine jR ?_ | refine jT ?_ | refine jB ?_ | refine jX rfl ?_ | refine jY rfl ?_ | refine jK ?_ | refine jD ?_ | refine jE ?_)
      refine Ix.mk k.toNat (Int.toNat_of_nonneg (by omega)).symm hkl ?_
      repeat (first | refine jC ?_ | refine jN ?_ | refine jS ?_ | refine jR ?_ | refine jT ?_ | refine jB ?_ | refine jX rfl ?_ | refine jY rfl ?_ | refine jK ?_ | refine jD ?_ | refine jE ?_)
      refine Ld.mk (hcm2.out 0 _ rfl) ?_
      repeat (first | refine jC ?_ | refine jN ?_ | refine jS ?_ | refine jR ?_ | refine jT ?_ | refine jB ?_ | refine jX rfl ?_ | refine jY rfl ?_ | refine jK ?_ | refine jD ?_ | refine jE ?_)
      refine Br.intro (fun hf => ?_) (fun hf => ?_)
      · repeat (first | refine jC ?_ | refine jN ?_ | refine jS ?_ | refine jR ?_ | refine jT ?_ | refine jB ?_ | refine jX rfl ?_ | refine jY rfl ?_ | refine jK ?_ | refine jD ?_ | refine jE ?_)
        refine Ix.mk i rfl hlt ?_
        repeat (first | refine jC ?_ | refine jN ?_ | refine jS ?_ | refine jR ?_ | refine jT ?_ | refine jB ?_ | refine jX rfl ?_ | refine jY rfl ?_ | refine jK ?_ | refine jD ?_ | refine jE ?_)
        refine Ld.mk (hcn.out 6 _ rfl) ?_
        repeat (first | refine jC ?_ | refine jN ?_ | refine jS ?_ | refine jR ?_ | refine jT ?_ | refine jB ?_ | refine jX rfl ?_ | refine jY rfl ?_ | refine jK ?_ | refine jD ?_ | refine jE ?_)
        refine Ix.mk j rfl hjl ?_
        repeat (first | refine jC ?_ | refine jN ?_ | refine jS ?_ | refine jR ?_ | refine jT ?_ | refine jB ?_ | refine jX rfl ?_ | refine jY rfl ?_ | refine jK ?_ | refine jD ?_ | refine jE ?_)
        refine Ld.mk (hkc.out j _ hk) ?_
        repeat (first | refine jC ?_ | refine jN ?_ | refine jS ?_ | refine jR ?_ | refine jT ?_ | refine jB ?_ | refine jX rfl ?_ | refine jY rfl ?_ | refine jK ?_ | refine jD ?_ | refine jE ?_)
        refine Br.intro (fun hle => ?_) (fun hle => ?_)
        · have hle := of_decide_eq_true hle
          repeat (first | refine jC ?_ | refine jN ?_ | refine jS ?_ | refine jR ?_ | refine jT ?_ | refine jB ?_ | refine jX rfl ?_ | refine jY rfl ?_ | refine jK ?_ | refine jD ?_ | refine jE ?_)
          exact EndV.val (by rw [treeB_no fun h' => by have := h'.down i n hu k hkm m hm hf; omega]) (Ext.refl _)
        · have hle := of_decide_eq_false hle
          repeat (first | refine jC ?_ | refine jN ?_ | refine jS ?_ | refine jR ?_ | refine jT ?_ | refine jB ?_ | refine jX rfl ?_ | refine jY rfl ?_ | refine jK ?_ | refine jD ?_ | refine jE ?_)
          refine ⟨I64.mk (by omega), ?_⟩
          repeat (first | refine jC ?_ | refine jN ?_ | refine jS ?_ | refine jR ?_ | refine jT ?_ | refine jB ?_ | refine jX rfl ?_ | refine jY rfl ?_ | refine jK ?_ | refine jD ?_ | refine jE ?_)
          exact ⟨j + 1, ⟨hjl, step fun _ => by omega⟩, by show n.kids.length - (j + 1) < n.kids.length - j; omega, ⟨rfl, rfl, rfl, trivial⟩, trivial, trivial, Ext.refl _⟩
      · repeat (first | refine jC ?_ | refine jN ?_ | refine jS ?_ | refine jR ?_ | refine jT ?_ | refine jB ?_ | refine jX rfl ?_ | refine jY rfl ?_ | refine jK ?_ | refine jD ?_ | refine jE ?_)
        refine ⟨I64.mk (by omega), ?_⟩
        repeat (first | refine jC ?_ | refine jN ?_ | refine jS ?_ | refine jR ?_ | refine jT ?_ | refine jB ?_ | refine jX rfl ?_ | refine jY rfl ?_ | refine jK ?_ | refine jD ?_ | refine jE ?_)
        exact ⟨j + 1, ⟨hjl, step fun e => by rw [e] at hf; cases hf⟩, by show n.kids.length - (j + 1) < n.kids.length - j; omega, ⟨rfl, rfl, rfl, trivial⟩, trivial, trivial, Ext.refl _⟩
    · have hje : j = n.kids.length := by have := of_decide_eq_false hj2; omega
      subst hje
      repeat (first | refine jC ?_ | refine jN ?_ | refine jS ?_ | refine jR ?_ | refine jT ?_ | refine jB ?_ | refine jX rfl ?_ | refine jY rfl ?_ | refine jK ?_ | refine jD ?_ | refine jE ?_)
      refine ⟨I64.mk (by omega), ?_⟩
      repeat (first | refine jC ?_ | refine jN ?_ | refine jS ?_ | refine jR ?_ | refine jT ?_ | refine jB ?_ | refine jX rfl ?_ | refine jY rfl ?_ | refine jK ?_ | refine jD ?_ | refine jE ?_)
      refine ⟨i + 1, ⟨hlt, fun i' hi' => ?_⟩, by show ts.length - (i + 1) < ts.length - i; omega, ⟨rfl, rfl, trivial⟩, trivial, trivial, Ext.refl _⟩
      by_cases hii : i' = i
      · subst hii
        intro n' hn'
        rw [hu] at hn'
        cases hn'
        refine ⟨h5, fun k hk m hm hf => ?_⟩
        obtain ⟨j', hj', rfl⟩ := List.getElem_of_mem hk
        exact hd j' _ m hj' (List.getElem?_eq_getElem hj') hm hf
      · exact hn i' (by omega)
  · have hie : i = ts.length := by have := of_decide_eq_false h; omega
    subst hie
    have hll : (linksOf ts).length = ts.length := links_full' (by omega) fun i n hi k hk => by
      have := ((hn i (List.getElem?_eq_some_iff.1 hi).1) n hi).1.2 k hk; omega
    repeat (first | refine jC ?_ | refine jN ?_ | refine jS ?_ | refine jR ?_ | refine jT ?_ | refine jB ?_ | refine jX rfl ?_ | refine jY rfl ?_ | refine jK ?_ | refine jD ?_ | refine jE ?_)
    refine CallV.mem _ (fun w' hw _ => sLinksOf_vc ts _ w' (hT0.ext hw) hs) (fun x1 wa wb hx1 hx2 _ ⟨lad, ln, lcap, e1, hB⟩ => ?_)
    subst e1
    have hxb := hx1.trans hx2
    have hln : ln = (linksOf ts).length := by have := hB.len; simp at this; omega
    subst hln
    have hR := hB.row1
    clear hB
    obtain ⟨lad', lcap', e, _, _, hlat⟩ := hR
    have hlen : (ints (linksOf ts)).length = (linksOf ts).length := by simp
    rw [hlen] at hlat e
    cases e
    obtain ⟨lb, lo, rfl, hlc2⟩ := hlat (by omega)
    repeat (first | refine jC ?_ | refine jN ?_ | refine jS ?_ | refine jR ?_ | refine jT ?_ | refine jB ?_ | refine jX rfl ?_ | refine jY rfl ?_ | refine jK ?_ | refine jD ?_ | refine jE ?_)
    refine WpC.loop (α := Nat) (fun x => ⟨[(0, .v (.slice (some ⟨b, o, none⟩) ts.length cap)), (5, .v (.slice (some ⟨lb, lo, none⟩) (linksOf ts).length lcap)), (6, .v (.int .i64 (x : Int)))], [], wb⟩)
      (fun x => 1 ≤ x ∧ x ≤ ts.length ∧ ∀ i, i < x → LAt ts i) (fun x => ts.length - x) 1 ⟨Nat.le_refl _, h1, fun i h h' => absurd h' (by omega)⟩ ⟨⟨rfl, rfl, rfl, trivial⟩, trivial, trivial, Ext.refl _⟩ ?_
    rintro i ⟨hi1, hi, hl3⟩
    repeat (first | refine jC ?_ | refine jN ?_ | refine jS ?_ | refine jR ?_ | refine jT ?_ | refine jB ?_ | refine jX rfl ?_ | refine jY rfl ?_ | refine jK ?_ | refine jD ?_ | refine jE ?_)
    refine Br.intro (fun h => ?_) (fun h => ?_)
    · have hlt : i < ts.length := by have := of_decide_eq_true h; omega
      have hu : ts[i]? = some ts[i] := List.getElem?_eq_getElem hlt
      generalize ts[i] = n at hu
      obtain ⟨nv, kv, hcn, hN⟩ := hc i n hu
      have hcn := hcn.ext hxb
      have step : (1 ≤ (linksOf ts).getD i 0 ∧ (n.folder = true → (linksOf ts).getD i 0 ≤ 1)) → ∀ i', i' < i + 1 → LAt ts i' := fun hh i' hi' => by
        by_cases hii : i' = i
        · subst hii
          intro _ n' hn'
          rw [hu] at hn'; cases hn'
          exact hh
        · exact hl3 i' (by omega)
      repeat (first | refine jC ?_ | refine jN ?_ | refine jS ?_ | refine jR ?_ | refine jT ?_ | refine jB ?_ | refine jX rfl ?_ | refine jY rfl ?_ | refine jK ?_ | refine jD ?_ | refine jE ?_)
      refine Ix.mk i rfl (by omega) ?_
      repeat (first | refine jC ?_ | refine jN ?_ | refine jS ?_ | refine jR ?_ | refine jT ?_ | refine jB ?_ | refine jX rfl ?_ | refine jY rfl ?_ | refine jK ?_ | refine jD ?_ | refine jE ?_)
      refine Ld.mk (hlc2.out i _ (ints_get (by omega))) ?_
      repeat (first | refine jC ?_ | refine jN ?_ | refine jS ?_ | refine jR ?_ | refine jT ?_ | refine jB ?_ | refine jX rfl ?_ | refine jY rfl ?_ | refine jK ?_ | refine jD ?_ | refine jE ?_)
      refine Br.intro (fun h7 => ?_) (fun h7 => ?_)
      · have h7 := of_decide_eq_true h7
        repeat (first | refine jC ?_ | refine jN ?_ | refine jS ?_ | refine jR ?_ | refine jT ?_ | refine jB ?_ | refine jX rfl ?_ | refine jY rfl ?_ | refine jK ?_ | refine jD ?_ | refine jE ?_)
        exact EndV.val (by rw [treeB_no fun h' => by have := h'.some_ i n (by omega) hu; omega]) hxb
      have h7 : 1 ≤ (linksOf ts).getD i 0 := by have := of_decide_eq_false h7; omega
      repeat (first | refine jC ?_ | refine jN ?_ | refine jS ?_ | refine jR ?_ | refine jT ?_ | refine jB ?_ | refine jX rfl ?_ | refine jY rfl ?_ | refine jK ?_ | refine jD ?_ | refine jE ?_)
      refine Ix.mk i rfl hlt ?_
      repeat (first | refine jC ?_ | refine jN ?_ | refine jS ?_ | refine jR ?_ | refine jT ?_ | refine jB ?_ | refine jX rfl ?_ | refine jY rfl ?_ | refine jK ?_ | refine jD ?_ | refine jE ?_)
      refine Ld.mk (hcn.out 0 _ rfl) ?_
      repeat (first | refine jC ?_ | refine jN ?_ | refine jS ?_ | refine jR ?_ | refine jT ?_ | refine jB ?_ | refine jX rfl ?_ | refine jY rfl ?_ | refine jK ?_ | refine jD ?_ | refine jE ?_)
      refine Br.intro (fun h8 => ?_) (fun h8 => ?_)
      · repeat (first | refine jC ?_ | refine jN ?_ | refine jS ?_ | refine jR ?_ | refine jT ?_ | refine jB ?_ | refine jX rfl ?_ | refine jY rfl ?_ | refine jK ?_ | refine jD ?_ | refine jE ?_)
        refine Ix.mk i rfl (by omega) ?_
        repeat (first | refine jC ?_ | refine jN ?_ | refine jS ?_ | refine jR ?_ | refine jT ?_ | refine jB ?_ | refine jX rfl ?_ | refine jY rfl ?_ | refine jK ?_ | refine jD ?_ | refine jE ?_)
        refine Ld.mk (hlc2.out i _ (ints_get (by omega))) ?_
        repeat (first | refine jC ?_ | refine jN ?_ | refine jS ?_ | refine jR ?_ | refine jT ?_ | refine jB ?_ | refine jX rfl ?_ | refine jY rfl ?_ | refine jK ?_ | refine jD ?_ | refine jE ?_)
        refine Br.intro (fun h9 => ?_) (fun h9 => ?_)
        · have h9 := of_decide_eq_true h9
          repeat (first | refine jC ?_ | refine jN ?_ | refine jS ?_ | refine jR ?_ | refine jT ?_ | refine jB ?_ | refine jX rfl ?_ | refine jY rfl ?_ | refine jK ?_ | refine jD ?_ | refine jE ?_)
          exact EndV.val (by rw [treeB_no fun h' => by have := h'.one i n (by omega) hu h8; omega]) hxb
        have h9 := of_decide_eq_false h9
        repeat (first | refine jC ?_ | refine jN ?_ | refine jS ?_ | refine jR ?_ | refine jT ?_ | refine jB ?_ | refine jX rfl ?_ | refine jY rfl ?_ | refine jK ?_ | refine jD ?_ | refine jE ?_)
        refine ⟨I64.mk (by omega), ?_⟩
        repeat (first | refine jC ?_ | refine jN ?_ | refine jS ?_ | refine jR ?_ | refine jT ?_ | refine jB ?_ | refine jX rfl ?_ | refine jY rfl ?_ | refine jK ?_ | refine jD ?_ | refine jE ?_)
        exact ⟨i + 1, ⟨by omega, hlt, step ⟨h7, fun _ => by omega⟩⟩, by show ts.length - (i + 1) < ts.length - i; omega, ⟨rfl, rfl, rfl, trivial⟩, trivial, trivial, Ext.refl _⟩
      · repeat (first | refine jC ?_ | refine jN ?_ | refine jS ?_ | refine jR ?_ | refine jT ?_ | refine jB ?_ | refine jX rfl ?_ | refine jY rfl ?_ | refine jK ?_ | refine jD ?_ | refine jE ?_)
        refine ⟨I64.mk (by omega), ?_⟩
        repeat (first | refine jC ?_ | refine jN ?_ | refine jS ?_ | refine jR ?_ | refine jT ?_ | refine jB ?_ | refine jX rfl ?_ | refine jY rfl ?_ | refine jK ?_ | refine jD ?_ | refine jE ?_)
        exact ⟨i + 1, ⟨by omega, hlt, step ⟨h7, fun e => by rw [e] at h8; cases h8⟩⟩, by show ts.length - (i + 1) < ts.length - i; omega, ⟨rfl, rfl, rfl, trivial⟩, trivial, trivial, Ext.refl _⟩
    · have hie : i = ts.length := by have := of_decide_eq_false h; omega
      subst hie
      repeat (first | refine jC ?_ | refine jN ?_ | refine jS ?_ | refine jR ?_ | refine jT ?_ | refine jB ?_ | refine jX rfl ?_ | refine jY rfl ?_ | refine jK ?_ | refine jD ?_ | refine jE ?_)
      exact EndV.val (by rw [treeB_yes (sTree_of h1 (by omega) (fun n hn0 => by rw [h00] at hn0; cases hn0; exact h3) hn hl3)]) hxb
end Go.Proofs.YtbnjjpgacemicaaGreatDoor
