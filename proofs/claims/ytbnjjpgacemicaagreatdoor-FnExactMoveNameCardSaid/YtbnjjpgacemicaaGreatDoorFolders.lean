/-
  Contracts: MakeFolders; the program's and the reference's.
  Conditions: bounds; the library's variable MaxLen holds some number.
-/
import Derived.Test.YtbnjjpgacemicaaGreatDoorMakes
import Derived.Test.YtbnjjpgacemicaaGreatDoorJoin
namespace Go.Proofs.YtbnjjpgacemicaaGreatDoor
open Go.RowKit Vc
set_option linter.unusedVariables false
set_option maxHeartbeats 2000000
attribute [local irreducible] WpC WpL WpD WpE WpB CallV QCallV Made AppV Ld LdN Ix EndV I64 MutN Mut CellsAt

noncomputable def stepF (ts : List Nd) (c : Cr) (own : ByteArray) (mode : Int) : List Nd × Int := if (findF ts c own).2 = 2 then makeF (abvF ts c own) ts c true mode else if (findF ts c own).2 ≠ 0 then ([], (findF ts c own).2) else match ts[(findF ts c own).1.toNat]? with
  | none => ([], 0)
  | some n => if n.folder then (ts, 0) else ([], 4)
noncomputable def foldersF (l : List ByteArray) (c : Cr) (mode : Int) : Nat → Nat → List Nd → List Nd × Int
  | 0, _, ts => (ts, 0)
  | m + 1, k, ts => if (stepF ts c (joinB (l.take (k + 1))) mode).2 ≠ 0 then ([], (stepF ts c (joinB (l.take (k + 1))) mode).2) else foldersF l c mode m (k + 1) (stepF ts c (joinB (l.take (k + 1))) mode).1
noncomputable def mkdirsF (ts : List Nd) (c : Cr) (s : ByteArray) (mode : Int) : List Nd × Int := match partsOf s with
  | none => ([], 1)
  | some l => if treeB ts && (c.ok && inR mode 0 1023) then foldersF l c mode l.length 0 ts else ([], 1)
/-- What stays true of a tree to which folders are added. -/
def InvF (k : Nat) (ts : List Nd) : Prop := ts.length ≤ 1048576 ∧ cntNds ts ≤ 6291456 + 20 * k ∧ ∀ n ∈ ts, n.wf
theorem cnt_at {ts : List Nd} {n : Nd} (h : n ∈ ts) : n.cnt ≤ cntNds ts := by
  induction ts with
  | nil => cases h
  | cons m r ih =>
    rw [cntNds]
    rcases List.mem_cons.1 h with rfl | h
    · omega
    · have := ih h; omega
theorem InvF.sized {k : Nat} {ts : List Nd} (h : InvF k ts) (hk : k ≤ 100) : Sized ts := ⟨h.1, fun n hn => by have := cnt_at hn; have := h.2.1; rw [Nd.cnt] at *; omega⟩
theorem InvF.mono {k k' : Nat} {ts : List Nd} (h : InvF k ts) (hk : k ≤ k') : InvF k' ts := ⟨h.1, by have := h.2.1; omega, h.2.2⟩
theorem wf_small {n : Int} (h0 : 0 ≤ n) (h1 : n ≤ 1048576) : (Lit.int .i64 n).wf = true := by
  have e1 : IntKind.i64.min = -9223372036854775808 := rfl
  have e2 : IntKind.i64.max = 9223372036854775807 := rfl
  simp only [Lit.wf, Bool.and_eq_true, decide_eq_true_eq]
  omega
theorem join_size {l : List ByteArray} (hg : Good l) : (joinB l).size ≤ 101 := by
  have := congrArg List.length hg.path
  have hj := join_len hg.1 (fun h' => hg.bix (.inr h'))
  simp only [List.length_cons, Array.length_toList] at this
  show (joinB l).data.size ≤ 101
  omega
theorem make_inv {k : Nat} {ts : List Nd} {c : Cr} {s : ByteArray} {folder : Bool} {mode : Int} (h : InvF k ts) (h0 : (makeF (abvF ts c s) ts c folder mode).2 = 0) : InvF (k + 1) (makeF (abvF ts c s) ts c folder mode).1 := by
  by_cases hm : inR mode 0 1023 = true
  · rcases abv_cases ts c s with ⟨f, he, h1, h4⟩ | ⟨j, n, x, hab, hfi, he, hn, hj, hT, hc, hok, hfo, hma⟩
    · have hp : placeF (abvF ts c s) ts = (-1, f) := by rw [he, placeF]; simp only; rw [if_pos (by omega)]
      rw [makeF, if_neg (by simp [hm]), hp, if_pos (by simp only; omega)] at h0 ⊢
      simp only at h0; omega
    · have e : placeF ⟨(j : Int), x.2, 0⟩ ts = if 0 ≤ n.kid x.2 then (-1, 5) else ((j : Int), 0) := by rw [placeF, if_neg (by simp)]; simp [hn]
      by_cases hki : 0 ≤ n.kid x.2
      · rw [if_pos hki] at e
        rw [he, makeF, if_neg (by simp [hm]), e, if_pos (by simp)] at h0
        simp only at h0; omega
      · rw [if_neg hki] at e
        rw [he, make_at hm e hn] at h0 ⊢
        have h16 := hT.hi
        by_cases hf : ts.length = 16
        · rw [if_pos hf] at h0; simp only at h0; omega
        · rw [if_neg hf]
          obtain ⟨g1, g2, g3⟩ := h
          have hnw := g3 n (List.mem_of_getElem? hn)
          obtain ⟨c1, ⟨c2, c3⟩, _⟩ := Cr.ok_iff.1 hc
          obtain ⟨m0, m1⟩ := inR_iff.1 hm
          have hsz := (above_size hab).2
          refine ⟨by simp; omega, ?_, fun m hmm => ?_⟩
          · simp only [cntNds_append, cntNds_put hn]
            simp only [cntNds, Nd.cnt, newN, List.length_nil]
            omega
          · rcases List.mem_append.1 hmm with hmm | hmm
            · rcases List.mem_or_eq_of_mem_set hmm with hmm | rfl
              · exact g3 m hmm
              · obtain ⟨w1, w2, w3, w4, w5, w6⟩ := hnw
                refine ⟨w1, w2, w3, w4, fun y hy => ?_, fun y hy => ?_⟩
                · rcases List.mem_append.1 hy with hy | hy
                  · exact w5 y (List.mem_of_mem_take hy)
                  · rcases List.mem_cons.1 hy with rfl | hy
                    · show x.2.size ≤ _; omega
                    · exact w5 y (List.mem_of_mem_drop hy)
                · rcases List.mem_append.1 hy with hy | hy
                  · exact w6 y (List.mem_of_mem_take hy)
                  · rcases List.mem_cons.1 hy with rfl | hy
                    · exact wf_small (by omega) (by omega)
                    · exact w6 y (List.mem_of_mem_drop hy)
            · rw [List.mem_singleton] at hmm
              subst hmm
              exact ⟨wf_small (n := c.acts) c2 (by omega), hnw.2.1, wf_small (n := mode) m0 (by omega), by show (0 : Nat) ≤ _; omega, fun y hy => (by cases hy), fun y hy => (by cases hy)⟩
  · rw [makeF, if_pos (by simpa using hm)] at h0
    simp only at h0; omega

theorem iMakeFolders_vc (ts : List Nd) (v : Value) (c : Cr) (s : ByteArray) (mode : Int) (w : World) (hA : Ask w v ts s) (hcnt : cntNds ts ≤ 6291456) : Turns 22 #[v, c.v, .string s, .int .i64 mode] w (mkdirsF ts c s mode) := by
  unfold Turns
  refine calls_of cx_ok Tryz.func22 Tryz.ntmps22 Tryz.results22 rfl rfl ?_
  repeat (first | refine jC ?_ | refine jN ?_ | refine jS ?_ | refine jR ?_ | refine jT ?_ | refine jB ?_ | refine jX rfl ?_ | refine jY rfl ?_ | refine jK ?_ | refine jD ?_ | refine jE ?_)
  intro b hb
  repeat (first | refine jC ?_ | refine jN ?_)
  refine WpC.plain (fun w0 hx0 hO => ?_)
  have hcb : CellsAt w0 b 0 [.int .i64 c.real, .int .i64 c.acts, .int .i64 c.saved, .int .i64 c.groups] := CellsAt.of_block hO.blk0 fun i v hi => by simpa using hi
  repeat (first | refine jC ?_ | refine jN ?_ | refine jS ?_ | refine jR ?_ | refine jT ?_ | refine jB ?_ | refine jX rfl ?_ | refine jY rfl ?_ | refine jK ?_ | refine jD ?_ | refine jE ?_)
  refine CallV.mem _ (fun w' hw _ => iPathParts_vc s w' hA.size (hA.ml.ext (hx0.trans hw))) (fun x1 wa wb hx1 hx2 _ hPP => ?_)
  obtain ⟨pv, rfl, hPV⟩ := hPP
  have hxb := (hx0.trans hx1).trans hx2
  cases hp : partsOf s with
  | none =>
    rw [hp] at hPV
    rw [mkdirsF, hp]
    repeat (first | refine jC ?_ | refine jN ?_ | refine jS ?_ | refine jR ?_ | refine jT ?_ | refine jB ?_ | refine jX rfl ?_ | refine jY rfl ?_ | refine jK ?_ | refine jD ?_ | refine jE ?_)
    exact EndV.tree (p := ([], 1)) hxb (TreeB.nil _ _ _)
  | some l =>
    rw [hp] at hPV
    obtain ⟨hgood, _⟩ := partsOf_iff.1 hp
    have hl6 := hgood.1
    obtain ⟨pad, pcap, gp, rfl, hRp, _, _⟩ := hPV
    simp only [Option.getD_some] at hRp
    rw [mkdirsF, hp]
    simp only
    repeat (first | refine jC ?_ | refine jN ?_ | refine jS ?_ | refine jR ?_ | refine jT ?_ | refine jB ?_ | refine jX rfl ?_ | refine jY rfl ?_ | refine jK ?_ | refine jD ?_ | refine jE ?_)
    have hTV := fun w' (hw : Vc.Ext wb w') => iTreeValid_vc ts v w' (hA.tree.ext (hxb.trans hw)) hA.sized hA.wf
    refine CallV.val (fun w' hw _ => hTV w' hw) ?_
    cases htb : treeB ts with
    | false =>
      repeat (first | refine jC ?_ | refine jN ?_ | refine jS ?_ | refine jR ?_ | refine jT ?_ | refine jB ?_ | refine jX rfl ?_ | refine jY rfl ?_ | refine jK ?_ | refine jD ?_ | refine jE ?_)
      exact EndV.tree (p := ([], 1)) hxb (TreeB.nil _ _ _)
    | true =>
      repeat (first | refine jC ?_ | refine jN ?_ | refine jS ?_ | refine jR ?_ | refine jT ?_ | refine jB ?_ | refine jX rfl ?_ | refine jY rfl ?_ | refine jK ?_ | refine jD ?_ | refine jE ?_)
      refine LdN.mk (hcb.ext ((hx1.trans hx2))) rfl ?_
      repeat (first | refine jC ?_ | refine jN ?_ | refine jS ?_ | refine jR ?_ | refine jT ?_ | refine jB ?_ | refine jX rfl ?_ | refine jY rfl ?_ | refine jK ?_ | refine jD ?_ | refine jE ?_)
      refine CallV.val (fun w' _ _ => iCredValid_any c w') ?_
      cases hco : c.ok with
      | false =>
        repeat (first | refine jC ?_ | refine jN ?_ | refine jS ?_ | refine jR ?_ | refine jT ?_ | refine jB ?_ | refine jX rfl ?_ | refine jY rfl ?_ | refine jK ?_ | refine jD ?_ | refine jE ?_)
        exact EndV.tree (p := ([], 1)) hxb (TreeB.nil _ _ _)
      | true =>
        repeat (first | refine jC ?_ | refine jN ?_ | refine jS ?_ | refine jR ?_ | refine jT ?_ | refine jB ?_ | refine jX rfl ?_ | refine jY rfl ?_ | refine jK ?_ | refine jD ?_ | refine jE ?_)
        refine CallV.val (fun w' _ _ => (isMode_any mode w').of_same) ?_
        cases hmo : inR mode 0 1023 with
        | false =>
          repeat (first | refine jC ?_ | refine jN ?_ | refine jS ?_ | refine jR ?_ | refine jT ?_ | refine jB ?_ | refine jX rfl ?_ | refine jY rfl ?_ | refine jK ?_ | refine jD ?_ | refine jE ?_)
          exact EndV.tree (p := ([], 1)) hxb (TreeB.nil _ _ _)
        | true =>
          repeat (first | refine jC ?_ | refine jN ?_ | refine jS ?_ | refine jR ?_ | refine jT ?_ | refine jB ?_ | refine jX rfl ?_ | refine jY rfl ?_ | refine jK ?_ | refine jD ?_ | refine jE ?_)
          refine CallV.mem _ (fun w' hw _ => iCopy_vc ts _ w' (hA.tree.ext (hxb.trans hw)) hA.sized) (fun x3 wc wd hx3 hx4 _ hB => ?_)
          have hxd := (hxb.trans hx3).trans hx4
          have hxbd := hx3.trans hx4
          have hlow : w.heap.size ≤ wc.heap.size := by have := hxb.size; have := hx3.size; omega
          have hRd := hRp.ext hxbd
          have hcd := hcb.ext ((hx1.trans hx2).trans hxbd)
          repeat (first | refine jC ?_ | refine jN ?_ | refine jS ?_ | refine jR ?_ | refine jT ?_ | refine jB ?_ | refine jX rfl ?_ | refine jY rfl ?_ | refine jK ?_ | refine jD ?_ | refine jE ?_)
          refine WpC.loop (α := Nat × Value × List Nd × World) (fun x => ⟨[(3, .v (.int .i64 mode)), (5, .v (.pointer (some ⟨b, 0, none⟩))), (10, .v (.slice pad l.length pcap)), (12, .v x.2.1), (44, .v (.int .i64 (l.length : Int))), (45, .v (.int .i64 (x.1 : Int)))], [], x.2.2.2⟩)
            (fun x => x.1 ≤ l.length ∧ Vc.Ext wd x.2.2.2 ∧ TreeB w.heap.size x.2.2.2.heap.size x.2.2.2 x.2.1 x.2.2.1 ∧ InvF x.1 x.2.2.1 ∧ foldersF l c mode (l.length - x.1) x.1 x.2.2.1 = foldersF l c mode l.length 0 ts) (fun x => l.length - x.1) (0, x3, ts, wd)
            ⟨Nat.zero_le _, Vc.Ext.refl _, hB.low hlow, ⟨hA.sized.1, by omega, hA.wf⟩, rfl⟩ ⟨⟨rfl, rfl, rfl, rfl, rfl, rfl, trivial⟩, trivial, trivial, Vc.Ext.refl _⟩ ?_
          rintro ⟨k, vk, tk, wk⟩ ⟨hk, hx, hTk, hI, hg⟩
          dsimp only at hk hx hTk hI hg ⊢
          repeat (first | refine jC ?_ | refine jN ?_ | refine jS ?_ | refine jR ?_ | refine jT ?_ | refine jB ?_ | refine jX rfl ?_ | refine jY rfl ?_ | refine jK ?_ | refine jD ?_ | refine jE ?_)
          refine Br.intro (fun h => ?_) (fun h => ?_)
          · have hlt : k < l.length := by have := of_decide_eq_true h; omega
            have hs1 : l.length - k = (l.length - (k + 1)) + 1 := by omega
            rw [hs1, foldersF] at hg
            have hgk := hgood.take (k + 1)
            have hjs := join_size hgk
            have hpc : l.length ≤ pcap := by
              obtain ⟨_, _, e, h1, _⟩ := id hRp
              injection e with _ _ e3
              rw [e3]; simpa using h1
            have hRk : Row1 wk (.slice pad (k + 1) pcap) (strs (l.take (k + 1))) := by
              have := Row1.takeV (k := k + 1) (hRd.ext hx) (by omega)
              rwa [← List.map_take] at this
            have hAk : Ask wk vk tk (joinB (l.take (k + 1))) := ⟨hTk.tree, hI.sized (by omega), hI.2.2, by omega, hA.ml.ext (hxd.trans hx)⟩
            have hck := hcd.ext hx
            have hxk := hxd.trans hx
            have hJ := fun w' (hw : Vc.Ext wk w') => iJoinPath_vc (l.take (k + 1)) _ w' (hRk.ext hw) (fun y hy => by have := parts_size hp y (List.mem_of_mem_take hy); omega)
            generalize joinB (l.take (k + 1)) = own at hg hAk hjs hJ
            have hF := fun w' (hw : Vc.Ext wk w') => iFindNode_vc tk vk c own w' (hAk.ext hw)
            repeat (first | refine jC ?_ | refine jN ?_ | refine jS ?_ | refine jR ?_ | refine jT ?_ | refine jB ?_ | refine jX rfl ?_ | refine jY rfl ?_ | refine jK ?_ | refine jD ?_ | refine jE ?_)
            refine ⟨I64.mk (by omega), ?_⟩
            repeat (first | refine jC ?_ | refine jN ?_ | refine jS ?_ | refine jR ?_ | refine jT ?_ | refine jB ?_ | refine jX rfl ?_ | refine jY rfl ?_ | refine jK ?_ | refine jD ?_ | refine jE ?_)
            refine ⟨k + 1, by omega, by omega, ?_⟩
            repeat (first | refine jC ?_ | refine jN ?_ | refine jS ?_ | refine jR ?_ | refine jT ?_ | refine jB ?_ | refine jX rfl ?_ | refine jY rfl ?_ | refine jK ?_ | refine jD ?_ | refine jE ?_)
            refine CallV.val (fun w' hw _ => hJ w' hw) ?_
            repeat (first | refine jC ?_ | refine jN ?_ | refine jS ?_ | refine jR ?_ | refine jT ?_ | refine jB ?_ | refine jX rfl ?_ | refine jY rfl ?_ | refine jK ?_ | refine jD ?_ | refine jE ?_)
            refine LdN.mk hck rfl ?_
            repeat (first | refine jC ?_ | refine jN ?_ | refine jS ?_ | refine jR ?_ | refine jT ?_ | refine jB ?_ | refine jX rfl ?_ | refine jY rfl ?_ | refine jK ?_ | refine jD ?_ | refine jE ?_)
            refine CallV.val (fun w' hw _ => hF w' hw) ?_
            rcases find_cases tk c own with ⟨f, he, h1, h4⟩ | ⟨j, n, he, hn, hj, hT, hc, hok⟩
            · rw [he]
              by_cases hf2 : f = 2
              · subst hf2
                have hst : stepF tk c own mode = makeF (abvF tk c own) tk c true mode := by rw [stepF, he, if_pos rfl]
                rw [hst] at hg
                repeat (first | refine jC ?_ | refine jN ?_ | refine jS ?_ | refine jR ?_ | refine jT ?_ | refine jB ?_ | refine jX rfl ?_ | refine jY rfl ?_ | refine jK ?_ | refine jD ?_ | refine jE ?_)
                refine LdN.mk hck rfl ?_
                repeat (first | refine jC ?_ | refine jN ?_ | refine jS ?_ | refine jR ?_ | refine jT ?_ | refine jB ?_ | refine jX rfl ?_ | refine jY rfl ?_ | refine jK ?_ | refine jD ?_ | refine jE ?_)
                refine CallV.mem _ (fun w' hw _ => (iMakeNode_vc tk vk c own true mode w' (hAk.ext hw)).out) (fun x4 we wf hx5 hx6 _ hMk => ?_)
                obtain ⟨u4, rfl, hB4⟩ := hMk
                have hxf := (hxk.trans hx5).trans hx6
                have hinv := fun h0 => make_inv (c := c) (s := own) (folder := true) (mode := mode) hI h0
                generalize makeF (abvF tk c own) tk c true mode = r at hg hB4 hinv ⊢
                repeat (first | refine jC ?_ | refine jN ?_ | refine jS ?_ | refine jR ?_ | refine jT ?_ | refine jB ?_ | refine jX rfl ?_ | refine jY rfl ?_ | refine jK ?_ | refine jD ?_ | refine jE ?_)
                refine Br.intro (fun h2 => ?_) (fun h2 => ?_)
                · have h0 : r.2 ≠ 0 := by simpa using h2
                  rw [if_pos h0] at hg
                  repeat (first | refine jC ?_ | refine jN ?_ | refine jS ?_ | refine jR ?_ | refine jT ?_ | refine jB ?_ | refine jX rfl ?_ | refine jY rfl ?_ | refine jK ?_ | refine jD ?_ | refine jE ?_)
                  rw [← hg]
                  exact EndV.tree (p := ([], r.2)) hxf (TreeB.nil _ _ _)
                · have h0 : r.2 = 0 := by simpa using h2
                  rw [if_neg (by simp [h0])] at hg
                  repeat (first | refine jC ?_ | refine jN ?_ | refine jS ?_ | refine jR ?_ | refine jT ?_ | refine jB ?_ | refine jX rfl ?_ | refine jY rfl ?_ | refine jK ?_ | refine jD ?_ | refine jE ?_)
                  refine ⟨I64.mk (by omega), ?_⟩
                  repeat (first | refine jC ?_ | refine jN ?_ | refine jS ?_ | refine jR ?_ | refine jT ?_ | refine jB ?_ | refine jX rfl ?_ | refine jY rfl ?_ | refine jK ?_ | refine jD ?_ | refine jE ?_)
                  exact ⟨(k + 1, u4, r.1, wf), ⟨hlt, (hx.trans hx5).trans hx6, hB4.low (by have := hxk.size; have := hx5.size; omega), hinv h0, hg⟩, by show l.length - (k + 1) < l.length - k; omega, ⟨rfl, rfl, rfl, rfl, rfl, rfl, trivial⟩, trivial, trivial, Vc.Ext.refl _⟩
              · have hst : stepF tk c own mode = ([], f) := by rw [stepF, he, if_neg hf2]; simp only; rw [if_pos (by omega)]
                rw [hst] at hg
                rw [if_pos (by simp only; omega)] at hg
                repeat (first | refine jC ?_ | refine jN ?_ | refine jS ?_ | refine jR ?_ | refine jT ?_ | refine jB ?_ | refine jX rfl ?_ | refine jY rfl ?_ | refine jK ?_ | refine jD ?_ | refine jE ?_)
                refine Br.no (by simpa using hf2) ?_
                repeat (first | refine jC ?_ | refine jN ?_ | refine jS ?_ | refine jR ?_ | refine jT ?_ | refine jB ?_ | refine jX rfl ?_ | refine jY rfl ?_ | refine jK ?_ | refine jD ?_ | refine jE ?_)
                refine Br.yes (by simp; omega) ?_
                repeat (first | refine jC ?_ | refine jN ?_ | refine jS ?_ | refine jR ?_ | refine jT ?_ | refine jB ?_ | refine jX rfl ?_ | refine jY rfl ?_ | refine jK ?_ | refine jD ?_ | refine jE ?_)
                rw [← hg]
                exact EndV.tree (p := ([], f)) hxk (TreeB.nil _ _ _)
            · rw [he]
              have hst : stepF tk c own mode = if n.folder then (tk, 0) else ([], 4) := by rw [stepF, he, if_neg (by simp), if_neg (by simp)]; simp [hn]
              rw [hst] at hg
              obtain ⟨adk, capk, rfl, hatk⟩ := hTk.tree.node
              obtain ⟨nb, no, nv, kv, rfl, hcn, hN⟩ := hatk j n hn
              repeat (first | refine jC ?_ | refine jN ?_ | refine jS ?_ | refine jR ?_ | refine jT ?_ | refine jB ?_ | refine jX rfl ?_ | refine jY rfl ?_ | refine jK ?_ | refine jD ?_ | refine jE ?_)
              refine Ix.mk j rfl hj ?_
              repeat (first | refine jC ?_ | refine jN ?_ | refine jS ?_ | refine jR ?_ | refine jT ?_ | refine jB ?_ | refine jX rfl ?_ | refine jY rfl ?_ | refine jK ?_ | refine jD ?_ | refine jE ?_)
              refine Ld.mk (hcn.out 0 _ rfl) ?_
              repeat (first | refine jC ?_ | refine jN ?_ | refine jS ?_ | refine jR ?_ | refine jT ?_ | refine jB ?_ | refine jX rfl ?_ | refine jY rfl ?_ | refine jK ?_ | refine jD ?_ | refine jE ?_)
              refine Br.intro (fun h2 => ?_) (fun h2 => ?_)
              · have e9 : (if n.folder then (tk, (0 : Int)) else ([], 4)) = ([], 4) := if_neg (by simpa using h2)
                rw [e9, if_pos (by simp)] at hg
                repeat (first | refine jC ?_ | refine jN ?_ | refine jS ?_ | refine jR ?_ | refine jT ?_ | refine jB ?_ | refine jX rfl ?_ | refine jY rfl ?_ | refine jK ?_ | refine jD ?_ | refine jE ?_)
                rw [← hg]
                exact EndV.tree (p := ([], 4)) hxk (TreeB.nil _ _ _)
              · have e9 : (if n.folder then (tk, (0 : Int)) else ([], 4)) = (tk, 0) := if_pos (by simpa using h2)
                rw [e9, if_neg (by simp)] at hg
                repeat (first | refine jC ?_ | refine jN ?_ | refine jS ?_ | refine jR ?_ | refine jT ?_ | refine jB ?_ | refine jX rfl ?_ | refine jY rfl ?_ | refine jK ?_ | refine jD ?_ | refine jE ?_)
                refine ⟨I64.mk (by omega), ?_⟩
                repeat (first | refine jC ?_ | refine jN ?_ | refine jS ?_ | refine jR ?_ | refine jT ?_ | refine jB ?_ | refine jX rfl ?_ | refine jY rfl ?_ | refine jK ?_ | refine jD ?_ | refine jE ?_)
                exact ⟨(k + 1, _, tk, wk), ⟨hlt, hx, hTk, hI.mono (by omega), hg⟩, by show l.length - (k + 1) < l.length - k; omega, ⟨rfl, rfl, rfl, rfl, rfl, rfl, trivial⟩, trivial, trivial, Vc.Ext.refl _⟩
          · have hke : k = l.length := by have := of_decide_eq_false h; omega
            subst hke
            rw [Nat.sub_self, foldersF] at hg
            repeat (first | refine jC ?_ | refine jN ?_ | refine jS ?_ | refine jR ?_ | refine jT ?_ | refine jB ?_ | refine jX rfl ?_ | refine jY rfl ?_ | refine jK ?_ | refine jD ?_ | refine jE ?_)
            rw [← hg]
            exact EndV.tree (p := (tk, 0)) (hxd.trans hx) hTk
theorem sMakeFolders_vc (ts : List Nd) (v : Value) (c : Cr) (s : ByteArray) (mode : Int) (w : World) (hA : Ask w v ts s) (hcnt : cntNds ts ≤ 6291456) : Turns 21 #[v, c.v, .string s, .int .i64 mode] w (mkdirsF ts c s mode) := by
  unfold Turns
  refine calls_of cx_ok Tryz.func21 Tryz.ntmps21 Tryz.results21 rfl rfl ?_
  repeat (first | refine jC ?_ | refine jN ?_ | refine jS ?_ | refine jR ?_ | refine jT ?_ | refine jB ?_ | refine jX rfl ?_ | refine jY rfl ?_ | refine jK ?_ | refine jD ?_ | refine jE ?_)
  intro b hb
  repeat (first | refine jC ?_ | refine jN ?_)
  refine WpC.plain (fun w0 hx0 hO => ?_)
  have hcb : CellsAt w0 b 0 [.int .i64 c.real, .int .i64 c.acts, .int .i64 c.saved, .int .i64 c.groups] := CellsAt.of_block hO.blk0 fun i v hi => by simpa using hi
  repeat (first | refine jC ?_ | refine jN ?_ | refine jS ?_ | refine jR ?_ | refine jT ?_ | refine jB ?_ | refine jX rfl ?_ | refine jY rfl ?_ | refine jK ?_ | refine jD ?_ | refine jE ?_)
  refine CallV.mem _ (fun w' hw _ => sPathParts_vc s w' hA.size) (fun x1 wa wb hx1 hx2 _ hPP => ?_)
  obtain ⟨pv, rfl, hPV⟩ := hPP
  have hxb := (hx0.trans hx1).trans hx2
  cases hp : partsOf s with
  | none =>
    rw [hp] at hPV
    rw [mkdirsF, hp]
    repeat (first | refine jC ?_ | refine jN ?_ | refine jS ?_ | refine jR ?_ | refine jT ?_ | refine jB ?_ | refine jX rfl ?_ | refine jY rfl ?_ | refine jK ?_ | refine jD ?_ | refine jE ?_)
    refine Made.mk fun g9 w9 hx9 _ _ _ _ => ?_
    repeat (first | refine jC ?_ | refine jN ?_ | refine jS ?_ | refine jR ?_ | refine jT ?_ | refine jB ?_ | refine jX rfl ?_ | refine jY rfl ?_ | refine jK ?_ | refine jD ?_ | refine jE ?_)
    exact EndV.tree (p := ([], 1)) (hxb.trans hx9) (TreeB.empty _ _ _ _ _)
  | some l =>
    rw [hp] at hPV
    obtain ⟨hgood, _⟩ := partsOf_iff.1 hp
    have hl6 := hgood.1
    obtain ⟨pad, pcap, gp, rfl, hRp, _, _⟩ := hPV
    simp only [Option.getD_some] at hRp
    rw [mkdirsF, hp]
    simp only
    repeat (first | refine jC ?_ | refine jN ?_ | refine jS ?_ | refine jR ?_ | refine jT ?_ | refine jB ?_ | refine jX rfl ?_ | refine jY rfl ?_ | refine jK ?_ | refine jD ?_ | refine jE ?_)
    have hTV := fun w' (hw : Vc.Ext wb w') => sTreeValid_vc ts v w' (hA.tree.ext (hxb.trans hw)) hA.sized hA.wf
    refine CallV.val (fun w' hw _ => hTV w' hw) ?_
    cases htb : treeB ts with
    | false =>
      repeat (first | refine jC ?_ | refine jN ?_ | refine jS ?_ | refine jR ?_ | refine jT ?_ | refine jB ?_ | refine jX rfl ?_ | refine jY rfl ?_ | refine jK ?_ | refine jD ?_ | refine jE ?_)
      refine Made.mk fun g9 w9 hx9 _ _ _ _ => ?_
      repeat (first | refine jC ?_ | refine jN ?_ | refine jS ?_ | refine jR ?_ | refine jT ?_ | refine jB ?_ | refine jX rfl ?_ | refine jY rfl ?_ | refine jK ?_ | refine jD ?_ | refine jE ?_)
      exact EndV.tree (p := ([], 1)) (hxb.trans hx9) (TreeB.empty _ _ _ _ _)
    | true =>
      repeat (first | refine jC ?_ | refine jN ?_ | refine jS ?_ | refine jR ?_ | refine jT ?_ | refine jB ?_ | refine jX rfl ?_ | refine jY rfl ?_ | refine jK ?_ | refine jD ?_ | refine jE ?_)
      refine LdN.mk (hcb.ext ((hx1.trans hx2))) rfl ?_
      repeat (first | refine jC ?_ | refine jN ?_ | refine jS ?_ | refine jR ?_ | refine jT ?_ | refine jB ?_ | refine jX rfl ?_ | refine jY rfl ?_ | refine jK ?_ | refine jD ?_ | refine jE ?_)
      refine CallV.val (fun w' _ _ => sCredValid_any c w') ?_
      cases hco : c.ok with
      | false =>
        repeat (first | refine jC ?_ | refine jN ?_ | refine jS ?_ | refine jR ?_ | refine jT ?_ | refine jB ?_ | refine jX rfl ?_ | refine jY rfl ?_ | refine jK ?_ | refine jD ?_ | refine jE ?_)
        refine Made.mk fun g9 w9 hx9 _ _ _ _ => ?_
        repeat (first | refine jC ?_ | refine jN ?_ | refine jS ?_ | refine jR ?_ | refine jT ?_ | refine jB ?_ | refine jX rfl ?_ | refine jY rfl ?_ | refine jK ?_ | refine jD ?_ | refine jE ?_)
        exact EndV.tree (p := ([], 1)) (hxb.trans hx9) (TreeB.empty _ _ _ _ _)
      | true =>
        repeat (first | refine jC ?_ | refine jN ?_ | refine jS ?_ | refine jR ?_ | refine jT ?_ | refine jB ?_ | refine jX rfl ?_ | refine jY rfl ?_ | refine jK ?_ | refine jD ?_ | refine jE ?_)
        refine CallV.val (fun w' _ _ => (l1In_any mode 0 1023 w').of_same) ?_
        cases hmo : inR mode 0 1023 with
        | false =>
          repeat (first | refine jC ?_ | refine jN ?_ | refine jS ?_ | refine jR ?_ | refine jT ?_ | refine jB ?_ | refine jX rfl ?_ | refine jY rfl ?_ | refine jK ?_ | refine jD ?_ | refine jE ?_)
          refine Made.mk fun g9 w9 hx9 _ _ _ _ => ?_
          repeat (first | refine jC ?_ | refine jN ?_ | refine jS ?_ | refine jR ?_ | refine jT ?_ | refine jB ?_ | refine jX rfl ?_ | refine jY rfl ?_ | refine jK ?_ | refine jD ?_ | refine jE ?_)
          exact EndV.tree (p := ([], 1)) (hxb.trans hx9) (TreeB.empty _ _ _ _ _)
        | true =>
          repeat (first | refine jC ?_ | refine jN ?_ | refine jS ?_ | refine jR ?_ | refine jT ?_ | refine jB ?_ | refine jX rfl ?_ | refine jY rfl ?_ | refine jK ?_ | refine jD ?_ | refine jE ?_)
          refine CallV.mem _ (fun w' hw _ => sCopy_vc ts _ w' (hA.tree.ext (hxb.trans hw)) hA.sized) (fun x3 wc wd hx3 hx4 _ hB => ?_)
          have hxd := (hxb.trans hx3).trans hx4
          have hxbd := hx3.trans hx4
          have hlow : w.heap.size ≤ wc.heap.size := by have := hxb.size; have := hx3.size; omega
          have hRd := hRp.ext hxbd
          have hcd := hcb.ext ((hx1.trans hx2).trans hxbd)
          repeat (first | refine jC ?_ | refine jN ?_ | refine jS ?_ | refine jR ?_ | refine jT ?_ | refine jB ?_ | refine jX rfl ?_ | refine jY rfl ?_ | refine jK ?_ | refine jD ?_ | refine jE ?_)
          refine WpC.loop (α := Nat × Value × List Nd × World) (fun x => ⟨[(3, .v (.int .i64 mode)), (5, .v (.pointer (some ⟨b, 0, none⟩))), (10, .v (.slice pad l.length pcap)), (12, .v x.2.1), (13, .v (.int .i64 ((x.1 : Int) + 1)))], [], x.2.2.2⟩)
            (fun x => x.1 ≤ l.length ∧ Vc.Ext wd x.2.2.2 ∧ TreeB w.heap.size x.2.2.2.heap.size x.2.2.2 x.2.1 x.2.2.1 ∧ InvF x.1 x.2.2.1 ∧ foldersF l c mode (l.length - x.1) x.1 x.2.2.1 = foldersF l c mode l.length 0 ts) (fun x => l.length - x.1) (0, x3, ts, wd)
            ⟨Nat.zero_le _, Vc.Ext.refl _, hB.low hlow, ⟨hA.sized.1, by omega, hA.wf⟩, rfl⟩ ⟨⟨rfl, rfl, rfl, rfl, rfl, trivial⟩, trivial, trivial, Vc.Ext.refl _⟩ ?_
          rintro ⟨k, vk, tk, wk⟩ ⟨hk, hx, hTk, hI, hg⟩
          dsimp only at hk hx hTk hI hg ⊢
          repeat (first | refine jC ?_ | refine jN ?_ | refine jS ?_ | refine jR ?_ | refine jT ?_ | refine jB ?_ | refine jX rfl ?_ | refine jY rfl ?_ | refine jK ?_ | refine jD ?_ | refine jE ?_)
          refine Br.intro (fun h => ?_) (fun h => ?_)
          · have hlt : k < l.length := by have := of_decide_eq_true h; omega
            have hs1 : l.length - k = (l.length - (k + 1)) + 1 := by omega
            rw [hs1, foldersF] at hg
            have hgk := hgood.take (k + 1)
            have hjs := join_size hgk
            have hpc : l.length ≤ pcap := by
              obtain ⟨_, _, e, h1, _⟩ := id hRp
              injection e with _ _ e3
              rw [e3]; simpa using h1
            have hRk : Row1 wk (.slice pad (k + 1) pcap) (strs (l.take (k + 1))) := by
              have := Row1.takeV (k := k + 1) (hRd.ext hx) (by omega)
              rwa [← List.map_take] at this
            have hAk : Ask wk vk tk (joinB (l.take (k + 1))) := ⟨hTk.tree, hI.sized (by omega), hI.2.2, by omega, hA.ml.ext (hxd.trans hx)⟩
            have hck := hcd.ext hx
            have hxk := hxd.trans hx
            have hJ := fun w' (hw : Vc.Ext wk w') => sJoinPath_vc (l.take (k + 1)) _ w' (hRk.ext hw) (fun y hy => by have := parts_size hp y (List.mem_of_mem_take hy); omega)
            generalize joinB (l.take (k + 1)) = own at hg hAk hjs hJ
            have hF := fun w' (hw : Vc.Ext wk w') => sFindNode_vc tk vk c own w' (hAk.ext hw)
            repeat (first | refine jC ?_ | refine jN ?_ | refine jS ?_ | refine jR ?_ | refine jT ?_ | refine jB ?_ | refine jX rfl ?_ | refine jY rfl ?_ | refine jK ?_ | refine jD ?_ | refine jE ?_)
            refine ⟨k + 1, by omega, by omega, ?_⟩
            repeat (first | refine jC ?_ | refine jN ?_ | refine jS ?_ | refine jR ?_ | refine jT ?_ | refine jB ?_ | refine jX rfl ?_ | refine jY rfl ?_ | refine jK ?_ | refine jD ?_ | refine jE ?_)
            refine CallV.val (fun w' hw _ => hJ w' hw) ?_
            repeat (first | refine jC ?_ | refine jN ?_ | refine jS ?_ | refine jR ?_ | refine jT ?_ | refine jB ?_ | refine jX rfl ?_ | refine jY rfl ?_ | refine jK ?_ | refine jD ?_ | refine jE ?_)
            refine LdN.mk hck rfl ?_
            repeat (first | refine jC ?_ | refine jN ?_ | refine jS ?_ | refine jR ?_ | refine jT ?_ | refine jB ?_ | refine jX rfl ?_ | refine jY rfl ?_ | refine jK ?_ | refine jD ?_ | refine jE ?_)
            refine CallV.val (fun w' hw _ => hF w' hw) ?_
            rcases find_cases tk c own with ⟨f, he, h1, h4⟩ | ⟨j, n, he, hn, hj, hT, hc, hok⟩
            · rw [he]
              by_cases hf2 : f = 2
              · subst hf2
                have hst : stepF tk c own mode = makeF (abvF tk c own) tk c true mode := by rw [stepF, he, if_pos rfl]
                rw [hst] at hg
                repeat (first | refine jC ?_ | refine jN ?_ | refine jS ?_ | refine jR ?_ | refine jT ?_ | refine jB ?_ | refine jX rfl ?_ | refine jY rfl ?_ | refine jK ?_ | refine jD ?_ | refine jE ?_)
                refine LdN.mk hck rfl ?_
                repeat (first | refine jC ?_ | refine jN ?_ | refine jS ?_ | refine jR ?_ | refine jT ?_ | refine jB ?_ | refine jX rfl ?_ | refine jY rfl ?_ | refine jK ?_ | refine jD ?_ | refine jE ?_)
                refine CallV.mem _ (fun w' hw _ => (sMakeNode_vc tk vk c own true mode w' (hAk.ext hw)).out) (fun x4 we wf hx5 hx6 _ hMk => ?_)
                obtain ⟨u4, rfl, hB4⟩ := hMk
                have hxf := (hxk.trans hx5).trans hx6
                have hinv := fun h0 => make_inv (c := c) (s := own) (folder := true) (mode := mode) hI h0
                generalize makeF (abvF tk c own) tk c true mode = r at hg hB4 hinv ⊢
                repeat (first | refine jC ?_ | refine jN ?_ | refine jS ?_ | refine jR ?_ | refine jT ?_ | refine jB ?_ | refine jX rfl ?_ | refine jY rfl ?_ | refine jK ?_ | refine jD ?_ | refine jE ?_)
                refine Br.intro (fun h2 => ?_) (fun h2 => ?_)
                · have h0 : r.2 ≠ 0 := by simpa using h2
                  rw [if_pos h0] at hg
                  repeat (first | refine jC ?_ | refine jN ?_ | refine jS ?_ | refine jR ?_ | refine jT ?_ | refine jB ?_ | refine jX rfl ?_ | refine jY rfl ?_ | refine jK ?_ | refine jD ?_ | refine jE ?_)
                  rw [← hg]
                  refine Made.mk fun g9 w9 hx9 _ _ _ _ => ?_
                  repeat (first | refine jC ?_ | refine jN ?_ | refine jS ?_ | refine jR ?_ | refine jT ?_ | refine jB ?_ | refine jX rfl ?_ | refine jY rfl ?_ | refine jK ?_ | refine jD ?_ | refine jE ?_)
                  exact EndV.tree (p := ([], r.2)) (hxf.trans hx9) (TreeB.empty _ _ _ _ _)
                · have h0 : r.2 = 0 := by simpa using h2
                  rw [if_neg (by simp [h0])] at hg
                  repeat (first | refine jC ?_ | refine jN ?_ | refine jS ?_ | refine jR ?_ | refine jT ?_ | refine jB ?_ | refine jX rfl ?_ | refine jY rfl ?_ | refine jK ?_ | refine jD ?_ | refine jE ?_)
                  refine ⟨I64.mk (by omega), ?_⟩
                  repeat (first | refine jC ?_ | refine jN ?_ | refine jS ?_ | refine jR ?_ | refine jT ?_ | refine jB ?_ | refine jX rfl ?_ | refine jY rfl ?_ | refine jK ?_ | refine jD ?_ | refine jE ?_)
                  exact ⟨(k + 1, u4, r.1, wf), ⟨hlt, (hx.trans hx5).trans hx6, hB4.low (by have := hxk.size; have := hx5.size; omega), hinv h0, hg⟩, by show l.length - (k + 1) < l.length - k; omega, ⟨rfl, rfl, rfl, rfl, rfl, trivial⟩, trivial, trivial, Vc.Ext.refl _⟩
              · have hst : stepF tk c own mode = ([], f) := by rw [stepF, he, if_neg hf2]; simp only; rw [if_pos (by omega)]
                rw [hst] at hg
                rw [if_pos (by simp only; omega)] at hg
                repeat (first | refine jC ?_ | refine jN ?_ | refine jS ?_ | refine jR ?_ | refine jT ?_ | refine jB ?_ | refine jX rfl ?_ | refine jY rfl ?_ | refine jK ?_ | refine jD ?_ | refine jE ?_)
                refine Br.no (by simpa using hf2) ?_
                repeat (first | refine jC ?_ | refine jN ?_ | refine jS ?_ | refine jR ?_ | refine jT ?_ | refine jB ?_ | refine jX rfl ?_ | refine jY rfl ?_ | refine jK ?_ | refine jD ?_ | refine jE ?_)
                refine Br.yes (by simp; omega) ?_
                repeat (first | refine jC ?_ | refine jN ?_ | refine jS ?_ | refine jR ?_ | refine jT ?_ | refine jB ?_ | refine jX rfl ?_ | refine jY rfl ?_ | refine jK ?_ | refine jD ?_ | refine jE ?_)
                rw [← hg]
                refine Made.mk fun g9 w9 hx9 _ _ _ _ => ?_
                repeat (first | refine jC ?_ | refine jN ?_ | refine jS ?_ | refine jR ?_ | refine jT ?_ | refine jB ?_ | refine jX rfl ?_ | refine jY rfl ?_ | refine jK ?_ | refine jD ?_ | refine jE ?_)
                exact EndV.tree (p := ([], f)) (hxk.trans hx9) (TreeB.empty _ _ _ _ _)
            · rw [he]
              have hst : stepF tk c own mode = if n.folder then (tk, 0) else ([], 4) := by rw [stepF, he, if_neg (by simp), if_neg (by simp)]; simp [hn]
              rw [hst] at hg
              obtain ⟨adk, capk, rfl, hatk⟩ := hTk.tree.node
              obtain ⟨nb, no, nv, kv, rfl, hcn, hN⟩ := hatk j n hn
              repeat (first | refine jC ?_ | refine jN ?_ | refine jS ?_ | refine jR ?_ | refine jT ?_ | refine jB ?_ | refine jX rfl ?_ | refine jY rfl ?_ | refine jK ?_ | refine jD ?_ | refine jE ?_)
              refine Ix.mk j rfl hj ?_
              repeat (first | refine jC ?_ | refine jN ?_ | refine jS ?_ | refine jR ?_ | refine jT ?_ | refine jB ?_ | refine jX rfl ?_ | refine jY rfl ?_ | refine jK ?_ | refine jD ?_ | refine jE ?_)
              refine Ld.mk (hcn.out 0 _ rfl) ?_
              repeat (first | refine jC ?_ | refine jN ?_ | refine jS ?_ | refine jR ?_ | refine jT ?_ | refine jB ?_ | refine jX rfl ?_ | refine jY rfl ?_ | refine jK ?_ | refine jD ?_ | refine jE ?_)
              refine Br.intro (fun h2 => ?_) (fun h2 => ?_)
              · have e9 : (if n.folder then (tk, (0 : Int)) else ([], 4)) = ([], 4) := if_neg (by simpa using h2)
                rw [e9, if_pos (by simp)] at hg
                repeat (first | refine jC ?_ | refine jN ?_ | refine jS ?_ | refine jR ?_ | refine jT ?_ | refine jB ?_ | refine jX rfl ?_ | refine jY rfl ?_ | refine jK ?_ | refine jD ?_ | refine jE ?_)
                rw [← hg]
                refine Made.mk fun g9 w9 hx9 _ _ _ _ => ?_
                repeat (first | refine jC ?_ | refine jN ?_ | refine jS ?_ | refine jR ?_ | refine jT ?_ | refine jB ?_ | refine jX rfl ?_ | refine jY rfl ?_ | refine jK ?_ | refine jD ?_ | refine jE ?_)
                exact EndV.tree (p := ([], 4)) (hxk.trans hx9) (TreeB.empty _ _ _ _ _)
              · have e9 : (if n.folder then (tk, (0 : Int)) else ([], 4)) = (tk, 0) := if_pos (by simpa using h2)
                rw [e9, if_neg (by simp)] at hg
                repeat (first | refine jC ?_ | refine jN ?_ | refine jS ?_ | refine jR ?_ | refine jT ?_ | refine jB ?_ | refine jX rfl ?_ | refine jY rfl ?_ | refine jK ?_ | refine jD ?_ | refine jE ?_)
                refine ⟨I64.mk (by omega), ?_⟩
                repeat (first | refine jC ?_ | refine jN ?_ | refine jS ?_ | refine jR ?_ | refine jT ?_ | refine jB ?_ | refine jX rfl ?_ | refine jY rfl ?_ | refine jK ?_ | refine jD ?_ | refine jE ?_)
                exact ⟨(k + 1, _, tk, wk), ⟨hlt, hx, hTk, hI.mono (by omega), hg⟩, by show l.length - (k + 1) < l.length - k; omega, ⟨rfl, rfl, rfl, rfl, rfl, trivial⟩, trivial, trivial, Vc.Ext.refl _⟩
          · have hke : k = l.length := by have := of_decide_eq_false h; omega
            subst hke
            rw [Nat.sub_self, foldersF] at hg
            repeat (first | refine jC ?_ | refine jN ?_ | refine jS ?_ | refine jR ?_ | refine jT ?_ | refine jB ?_ | refine jX rfl ?_ | refine jY rfl ?_ | refine jK ?_ | refine jD ?_ | refine jE ?_)
            rw [← hg]
            exact EndV.tree (p := (tk, 0)) (hxd.trans hx) hTk
theorem make_le (ts : List Nd) (a : Abv) (c : Cr) (folder : Bool) (mode : Int) : cntNds (makeF a ts c folder mode).1 ≤ cntNds ts + 7 := by
  rw [makeF]
  split
  · simp [cntNds]
  · split
    · simp [cntNds]
    · split
      · simp [cntNds]
      · split
        · simp [cntNds]
        · rename_i n hn
          simp only [cntNds_append, cntNds_put hn]
          simp only [cntNds, Nd.cnt, newN, List.length_nil]
          omega
theorem folders_le (l : List ByteArray) (c : Cr) (mode : Int) : ∀ (m k : Nat) (ts : List Nd), cntNds (foldersF l c mode m k ts).1 ≤ cntNds ts + 7 * m
  | 0, k, ts => by rw [foldersF]; show cntNds ts ≤ _; omega
  | m + 1, k, ts => by
    rw [foldersF]
    split
    · simp [cntNds]
    · have h1 := folders_le l c mode m (k + 1) (stepF ts c (joinB (l.take (k + 1))) mode).1
      have h2 : cntNds (stepF ts c (joinB (l.take (k + 1))) mode).1 ≤ cntNds ts + 7 := by
        rw [stepF]
        split
        · exact make_le _ _ _ _ _
        · split
          · simp [cntNds]
          · split
            · simp [cntNds]
            · split
              · simp only; omega
              · simp [cntNds]
      omega
theorem mkdirs_cnt (ts : List Nd) (c : Cr) (s : ByteArray) (mode : Int) (hs : Sized ts) (h : cntNds ts ≤ 6291456) : cntNds (mkdirsF ts c s mode).1 ≤ 100000000 := by
  rw [mkdirsF]
  split
  · simp [cntNds]
  · rename_i l hl
    have h6 := (partsOf_iff.1 hl).1.1
    split
    · have := folders_le l c mode l.length 0 ts
      omega
    · simp [cntNds]

end Go.Proofs.YtbnjjpgacemicaaGreatDoor
