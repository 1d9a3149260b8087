/-
  Contracts: CopyFile; the program's and the reference's.
  Conditions: bounds; the library's variable MaxLen holds some number.
-/
import Derived.Test.YtbnjjpgacemicaaGreatDoorMakes
namespace Go.Proofs.YtbnjjpgacemicaaGreatDoor
open Go.RowKit Vc
set_option linter.unusedVariables false
set_option maxHeartbeats 2000000
attribute [local irreducible] WpC WpL WpD WpE WpB CallV QCallV Made AppV Ld LdN Ix EndV I64 MutN Mut CellsAt

def textF (ts : List Nd) (k : Nat) (text : ByteArray) : List Nd := match ts[k]? with
  | none => ts
  | some m => ts.set k { m with text := text }
noncomputable def copyFF (ts : List Nd) (c : Cr) (s s2 : ByteArray) : List Nd × Int := if (fileF (findF ts c s) ts c 4).2 ≠ 0 then ([], (fileF (findF ts c s) ts c 4).2) else match ts[(fileF (findF ts c s) ts c 4).1.toNat]? with
  | none => ([], 0)
  | some n => if (findF ts c s2).2 ≠ 2 then writeF (fileF (findF ts c s2) ts c 2) ts n.text else
      if (makeF (abvF ts c s2) ts c false (n.mode % 512)).2 ≠ 0 then ([], (makeF (abvF ts c s2) ts c false (n.mode % 512)).2) else (textF (makeF (abvF ts c s2) ts c false (n.mode % 512)).1 ts.length n.text, 0)
theorem make_len {ts : List Nd} {c : Cr} {s : ByteArray} {folder : Bool} {mode : Int} (h0 : (makeF (abvF ts c s) ts c folder mode).2 = 0) : (makeF (abvF ts c s) ts c folder mode).1.length = ts.length + 1 ∧ ts.length < 16 := by
  by_cases hm : inR mode 0 1023 = true
  · rcases place_cases ts c s with ⟨f, he, h1, h5⟩ | ⟨k, n, x, hab, hav, he, hn, hk, hT, hok⟩
    · rw [makeF, if_neg (by simp [hm]), he, if_pos (by simp only; omega)] at h0
      simp only at h0; omega
    · rw [make_at hm he hn] at h0 ⊢
      have h16 := hT.hi
      by_cases hf : ts.length = 16
      · rw [if_pos hf] at h0; simp only at h0; omega
      · rw [if_neg hf]
        exact ⟨by simp, by omega⟩
  · rw [makeF, if_pos (by simpa using hm)] at h0
    simp only at h0; omega
theorem sticky_off {m : Int} (h : inR m 0 1023 = true) : bits .andNot .i64 m 512 = m % 512 := by
  obtain ⟨h0, h1⟩ := inR_iff.1 h
  rw [i64_andNot m 512 h0 (by omega) (by omega) (by omega)]
  obtain ⟨n, rfl⟩ := Int.eq_ofNat_of_zero_le h0
  have key : ∀ k : Fin 1024, (k.val &&& (18446744073709551615 - 512)) = k.val % 512 := by decide +kernel
  have := key ⟨n, by omega⟩
  simp only at this
  rw [Int.toNat_natCast]
  show ((n &&& (18446744073709551615 - (512 : Int).toNat) : Nat) : Int) = _
  rw [show (512 : Int).toNat = 512 from rfl, this]
  omega
theorem text_at {ts : List Nd} {k : Nat} {m : Nd} {text : ByteArray} (h : ts[k]? = some m) : textF ts k text = ts.set k { m with text := text } := by
  rw [textF, h]

theorem iCopyFile_vc (ts : List Nd) (v : Value) (c : Cr) (s s2 : ByteArray) (w : World) (hA : Ask w v ts s) (hA2 : Ask w v ts s2) : Turns 26 #[v, c.v, .string s, .string s2] w (copyFF ts c s s2) := by
  have hF := fun w' (hw : Vc.Ext w w') => fileAt_vc ts v c s 4 (by decide) w' (hA.ext hw)
  have hF2 := fun w' (hw : Vc.Ext w w') => iFindNode_vc ts v c s2 w' (hA2.ext hw)
  unfold Turns
  refine calls_of cx_ok Tryz.func26 Tryz.ntmps26 Tryz.results26 rfl rfl ?_
  repeat (first | refine WpL.cons ?_ | refine WpL.nil ?_ | refine WpC.seq ?_ | refine WpC.reg ?_ | refine WpC.ret ?_ | refine WpC.block ?_ | refine WpC.exit rfl ?_ | refine WpC.cond rfl ?_ | refine WpC.skip ?_ | refine WpD.cons ?_ | refine WpD.nil ?_)
  intro b hb
  repeat (first | refine WpL.cons ?_ | refine WpL.nil ?_)
  refine WpC.plain (fun w0 hx0 hO => ?_)
  have hcb : CellsAt w0 b 0 [.int .i64 c.real, .int .i64 c.acts, .int .i64 c.saved, .int .i64 c.groups] := CellsAt.of_block hO.blk0 fun i v hi => by simpa using hi
  repeat (first | refine WpL.cons ?_ | refine WpL.nil ?_ | refine WpC.seq ?_ | refine WpC.reg ?_ | refine WpC.ret ?_ | refine WpC.block ?_ | refine WpC.exit rfl ?_ | refine WpC.cond rfl ?_ | refine WpC.skip ?_ | refine WpD.cons ?_ | refine WpD.nil ?_)
  refine LdN.mk hcb rfl ?_
  repeat (first | refine WpL.cons ?_ | refine WpL.nil ?_ | refine WpC.seq ?_ | refine WpC.reg ?_ | refine WpC.ret ?_ | refine WpC.block ?_ | refine WpC.exit rfl ?_ | refine WpC.cond rfl ?_ | refine WpC.skip ?_ | refine WpD.cons ?_ | refine WpD.nil ?_)
  refine CallV.val (fun w' hw _ => hF w' (hx0.trans hw)) ?_
  rcases file_cases ts c s 4 with ⟨f, he, h1, h4⟩ | ⟨k, n, hfi, he, hn, hk, hT, hc, hok, hfo, hma⟩
  · rw [he, copyFF, he]
    simp only
    rw [if_pos (by omega)]
    repeat (first | refine WpL.cons ?_ | refine WpL.nil ?_ | refine WpC.seq ?_ | refine WpC.reg ?_ | refine WpC.ret ?_ | refine WpC.block ?_ | refine WpC.exit rfl ?_ | refine WpC.cond rfl ?_ | refine WpC.skip ?_ | refine WpD.cons ?_ | refine WpD.nil ?_)
    refine Br.yes (by simp; omega) ?_
    repeat (first | refine WpL.cons ?_ | refine WpL.nil ?_ | refine WpC.seq ?_ | refine WpC.reg ?_ | refine WpC.ret ?_ | refine WpC.block ?_ | refine WpC.exit rfl ?_ | refine WpC.cond rfl ?_ | refine WpC.skip ?_ | refine WpD.cons ?_ | refine WpD.nil ?_)
    exact EndV.tree (p := ([], f)) hx0 (TreeB.nil _ _ _)
  obtain ⟨ad, cap, rfl, hat⟩ := hA.tree.node
  obtain ⟨nb, no, nv, kv, rfl, hcn, hN⟩ := hat k n hn
  have hcf : copyFF ts c s s2 = if (findF ts c s2).2 ≠ 2 then writeF (fileF (findF ts c s2) ts c 2) ts n.text else
      if (makeF (abvF ts c s2) ts c false (n.mode % 512)).2 ≠ 0 then ([], (makeF (abvF ts c s2) ts c false (n.mode % 512)).2) else (textF (makeF (abvF ts c s2) ts c false (n.mode % 512)).1 ts.length n.text, 0) := by
    rw [copyFF, he, if_neg (by simp)]; simp only [Int.toNat_natCast, hn]
  rw [hcf, he]
  repeat (first | refine WpL.cons ?_ | refine WpL.nil ?_ | refine WpC.seq ?_ | refine WpC.reg ?_ | refine WpC.ret ?_ | refine WpC.block ?_ | refine WpC.exit rfl ?_ | refine WpC.cond rfl ?_ | refine WpC.skip ?_ | refine WpD.cons ?_ | refine WpD.nil ?_)
  refine LdN.mk hcb rfl ?_
  repeat (first | refine WpL.cons ?_ | refine WpL.nil ?_ | refine WpC.seq ?_ | refine WpC.reg ?_ | refine WpC.ret ?_ | refine WpC.block ?_ | refine WpC.exit rfl ?_ | refine WpC.cond rfl ?_ | refine WpC.skip ?_ | refine WpD.cons ?_ | refine WpD.nil ?_)
  refine CallV.val (fun w' hw _ => hF2 w' (hx0.trans hw)) ?_
  generalize hf2 : (findF ts c s2) = f2
  obtain ⟨q, f⟩ := f2
  simp only
  repeat (first | refine WpL.cons ?_ | refine WpL.nil ?_ | refine WpC.seq ?_ | refine WpC.reg ?_ | refine WpC.ret ?_ | refine WpC.block ?_ | refine WpC.exit rfl ?_ | refine WpC.cond rfl ?_ | refine WpC.skip ?_ | refine WpD.cons ?_ | refine WpD.nil ?_)
  refine Br.intro (fun h => ?_) (fun h => ?_)
  · rw [if_pos (by simpa using h)]
    repeat (first | refine WpL.cons ?_ | refine WpL.nil ?_ | refine WpC.seq ?_ | refine WpC.reg ?_ | refine WpC.ret ?_ | refine WpC.block ?_ | refine WpC.exit rfl ?_ | refine WpC.cond rfl ?_ | refine WpC.skip ?_ | refine WpD.cons ?_ | refine WpD.nil ?_)
    refine WpC.drawE (.st 0 (.st 1 (.st 2 (.st 3 (.st 4 (.st 5 (.st 6 (.st 7 (.ef 8 (.st 9 (.st 10 (.st 11 (.st 12 .done)))) .done))))))))) [(0, .mv), (2, .mv), (3, .mv), (4, .mv), (8, .ef), (11, .mv), (12, .mv)] (by kernel_rfl) ?_
    repeat (first | refine WpE.mv (by exact rfl) (by exact rfl) ?_ | refine WpE.rd (by exact rfl) (by exact rfl) ?_ | refine WpE.ef (by exact rfl) (by exact rfl) ?_ | refine WpE.br (by exact rfl) (by exact rfl) ?_ | refine WpE.after ?_ | refine WpE.done ?_ | refine WpL.cons ?_ | refine WpL.nil ?_ | refine WpC.seq ?_ | refine WpC.reg ?_ | refine WpC.ret ?_ | refine WpC.block ?_ | refine WpC.exit rfl ?_ | refine WpC.cond rfl ?_ | refine WpC.skip ?_ | refine WpD.cons ?_ | refine WpD.nil ?_)
    refine LdN.mk hcb rfl ?_
    repeat (first | refine WpE.mv (by exact rfl) (by exact rfl) ?_ | refine WpE.rd (by exact rfl) (by exact rfl) ?_ | refine WpE.ef (by exact rfl) (by exact rfl) ?_ | refine WpE.br (by exact rfl) (by exact rfl) ?_ | refine WpE.after ?_ | refine WpE.done ?_ | refine WpL.cons ?_ | refine WpL.nil ?_ | refine WpC.seq ?_ | refine WpC.reg ?_ | refine WpC.ret ?_ | refine WpC.block ?_ | refine WpC.exit rfl ?_ | refine WpC.cond rfl ?_ | refine WpC.skip ?_ | refine WpD.cons ?_ | refine WpD.nil ?_)
    refine Ix.mk k rfl hk ?_
    repeat (first | refine WpE.mv (by exact rfl) (by exact rfl) ?_ | refine WpE.rd (by exact rfl) (by exact rfl) ?_ | refine WpE.ef (by exact rfl) (by exact rfl) ?_ | refine WpE.br (by exact rfl) (by exact rfl) ?_ | refine WpE.after ?_ | refine WpE.done ?_ | refine WpL.cons ?_ | refine WpL.nil ?_ | refine WpC.seq ?_ | refine WpC.reg ?_ | refine WpC.ret ?_ | refine WpC.block ?_ | refine WpC.exit rfl ?_ | refine WpC.cond rfl ?_ | refine WpC.skip ?_ | refine WpD.cons ?_ | refine WpD.nil ?_)
    refine Ld.mk ((hcn.ext hx0).out 4 _ rfl) ?_
    repeat (first | refine WpE.mv (by exact rfl) (by exact rfl) ?_ | refine WpE.rd (by exact rfl) (by exact rfl) ?_ | refine WpE.ef (by exact rfl) (by exact rfl) ?_ | refine WpE.br (by exact rfl) (by exact rfl) ?_ | refine WpE.after ?_ | refine WpE.done ?_ | refine WpL.cons ?_ | refine WpL.nil ?_ | refine WpC.seq ?_ | refine WpC.reg ?_ | refine WpC.ret ?_ | refine WpC.block ?_ | refine WpC.exit rfl ?_ | refine WpC.cond rfl ?_ | refine WpC.skip ?_ | refine WpD.cons ?_ | refine WpD.nil ?_)
    refine CallV.mem _ (fun w' hw _ => (hf2 ▸ iWriteFile_vc ts _ c s2 n.text w' (hA2.ext (hx0.trans hw)) : Turns _ _ _ _).out) (fun x4 wa wb hx1 hx2 _ hMk => ?_)
    obtain ⟨u4, rfl, hB4⟩ := hMk
    refine ⟨Keep.ext (hx1.trans hx2), ?_⟩
    repeat (first | refine WpE.mv (by exact rfl) (by exact rfl) ?_ | refine WpE.rd (by exact rfl) (by exact rfl) ?_ | refine WpE.ef (by exact rfl) (by exact rfl) ?_ | refine WpE.br (by exact rfl) (by exact rfl) ?_ | refine WpE.after ?_ | refine WpE.done ?_ | refine WpL.cons ?_ | refine WpL.nil ?_ | refine WpC.seq ?_ | refine WpC.reg ?_ | refine WpC.ret ?_ | refine WpC.block ?_ | refine WpC.exit rfl ?_ | refine WpC.cond rfl ?_ | refine WpC.skip ?_ | refine WpD.cons ?_ | refine WpD.nil ?_)
    exact EndV.tree (p := writeF (fileF (q, f) ts c 2) ts n.text) ((hx0.trans hx1).trans hx2) (hB4.low (by have := hx0.size; have := hx1.size; omega))
  · rw [if_neg (by simpa using h)]
    repeat (first | refine WpL.cons ?_ | refine WpL.nil ?_ | refine WpC.seq ?_ | refine WpC.reg ?_ | refine WpC.ret ?_ | refine WpC.block ?_ | refine WpC.exit rfl ?_ | refine WpC.cond rfl ?_ | refine WpC.skip ?_ | refine WpD.cons ?_ | refine WpD.nil ?_)
    have hmode := inR_iff.1 hok.mod
    have hMk : ∀ w', Vc.Ext w w' → Turns 18 #[.slice (some ⟨nb, no, none⟩) ts.length cap, c.v, .string s2, .bool false, .int .i64 (bits .andNot .i64 n.mode 512)] w' (makeF (abvF ts c s2) ts c false (n.mode % 512)) := fun w' hw => by
      rw [sticky_off hok.mod]; exact iMakeNode_vc ts _ c s2 false (n.mode % 512) w' (hA2.ext hw)
    have hml := fun h0 => make_len (ts := ts) (c := c) (s := s2) (folder := false) (mode := n.mode % 512) h0
    generalize makeF (abvF ts c s2) ts c false (n.mode % 512) = r at hMk hml ⊢
    refine WpC.drawE (.st 0 (.st 1 (.st 2 (.st 3 (.st 4 (.st 5 (.st 6 (.st 7 (.st 8 (.ef 9 (.st 10 (.st 11 (.st 12 (.st 13 (.st 14 .done))))) .done)))))))))) [(0, .mv), (2, .mv), (3, .mv), (4, .mv), (9, .ef), (10, .mv), (13, .mv), (14, .mv)] (by kernel_rfl) ?_
    repeat (first | refine WpE.mv (by exact rfl) (by exact rfl) ?_ | refine WpE.rd (by exact rfl) (by exact rfl) ?_ | refine WpE.ef (by exact rfl) (by exact rfl) ?_ | refine WpE.br (by exact rfl) (by exact rfl) ?_ | refine WpE.after ?_ | refine WpE.done ?_ | refine WpL.cons ?_ | refine WpL.nil ?_ | refine WpC.seq ?_ | refine WpC.reg ?_ | refine WpC.ret ?_ | refine WpC.block ?_ | refine WpC.exit rfl ?_ | refine WpC.cond rfl ?_ | refine WpC.skip ?_ | refine WpD.cons ?_ | refine WpD.nil ?_)
    refine LdN.mk hcb rfl ?_
    repeat (first | refine WpE.mv (by exact rfl) (by exact rfl) ?_ | refine WpE.rd (by exact rfl) (by exact rfl) ?_ | refine WpE.ef (by exact rfl) (by exact rfl) ?_ | refine WpE.br (by exact rfl) (by exact rfl) ?_ | refine WpE.after ?_ | refine WpE.done ?_ | refine WpL.cons ?_ | refine WpL.nil ?_ | refine WpC.seq ?_ | refine WpC.reg ?_ | refine WpC.ret ?_ | refine WpC.block ?_ | refine WpC.exit rfl ?_ | refine WpC.cond rfl ?_ | refine WpC.skip ?_ | refine WpD.cons ?_ | refine WpD.nil ?_)
    refine Ix.mk k rfl hk ?_
    repeat (first | refine WpE.mv (by exact rfl) (by exact rfl) ?_ | refine WpE.rd (by exact rfl) (by exact rfl) ?_ | refine WpE.ef (by exact rfl) (by exact rfl) ?_ | refine WpE.br (by exact rfl) (by exact rfl) ?_ | refine WpE.after ?_ | refine WpE.done ?_ | refine WpL.cons ?_ | refine WpL.nil ?_ | refine WpC.seq ?_ | refine WpC.reg ?_ | refine WpC.ret ?_ | refine WpC.block ?_ | refine WpC.exit rfl ?_ | refine WpC.cond rfl ?_ | refine WpC.skip ?_ | refine WpD.cons ?_ | refine WpD.nil ?_)
    refine Ld.mk ((hcn.ext hx0).out 3 _ rfl) ?_
    repeat (first | refine WpE.mv (by exact rfl) (by exact rfl) ?_ | refine WpE.rd (by exact rfl) (by exact rfl) ?_ | refine WpE.ef (by exact rfl) (by exact rfl) ?_ | refine WpE.br (by exact rfl) (by exact rfl) ?_ | refine WpE.after ?_ | refine WpE.done ?_ | refine WpL.cons ?_ | refine WpL.nil ?_ | refine WpC.seq ?_ | refine WpC.reg ?_ | refine WpC.ret ?_ | refine WpC.block ?_ | refine WpC.exit rfl ?_ | refine WpC.cond rfl ?_ | refine WpC.skip ?_ | refine WpD.cons ?_ | refine WpD.nil ?_)
    refine CallV.mem _ (fun w' hw _ => (hMk w' (hx0.trans hw)).out) (fun x4 wa wb hx1 hx2 _ hR => ?_)
    obtain ⟨u4, rfl, hB4⟩ := hR
    refine ⟨Keep.ext (hx1.trans hx2), ?_⟩
    repeat (first | refine WpE.mv (by exact rfl) (by exact rfl) ?_ | refine WpE.rd (by exact rfl) (by exact rfl) ?_ | refine WpE.ef (by exact rfl) (by exact rfl) ?_ | refine WpE.br (by exact rfl) (by exact rfl) ?_ | refine WpE.after ?_ | refine WpE.done ?_ | refine WpL.cons ?_ | refine WpL.nil ?_ | refine WpC.seq ?_ | refine WpC.reg ?_ | refine WpC.ret ?_ | refine WpC.block ?_ | refine WpC.exit rfl ?_ | refine WpC.cond rfl ?_ | refine WpC.skip ?_ | refine WpD.cons ?_ | refine WpD.nil ?_)
    have hxb := (hx0.trans hx1).trans hx2
    refine Br.intro (fun h2 => ?_) (fun h2 => ?_)
    · rw [if_pos (by simpa using h2)]
      repeat (first | refine WpL.cons ?_ | refine WpL.nil ?_ | refine WpC.seq ?_ | refine WpC.reg ?_ | refine WpC.ret ?_ | refine WpC.block ?_ | refine WpC.exit rfl ?_ | refine WpC.cond rfl ?_ | refine WpC.skip ?_ | refine WpD.cons ?_ | refine WpD.nil ?_)
      exact EndV.tree (p := ([], r.2)) hxb (TreeB.nil _ _ _)
    have h0 : r.2 = 0 := by simpa using h2
    rw [if_neg (by simp [h0])]
    obtain ⟨hlen, h16⟩ := hml h0
    obtain ⟨ad', cap', g, bl, pv, rfl, hTB⟩ := hB4
    have hk4 : ts.length < r.1.length := by omega
    have hm4 : r.1[ts.length]? = some r.1[ts.length] := List.getElem?_eq_getElem hk4
    generalize r.1[ts.length] = m at hm4
    obtain ⟨rfl, hlo3, hhi3, hm3, hcs3⟩ := hTB.open_ hk4
    have hle3 := hTB.le
    have hTB1 := TB.setC (n' := { m with text := n.text }) (x := .string n.text) (c := 4) hTB hm4 (Nat.le_refl _) (by omega) rfl rfl rfl
    rw [text_at hm4]
    repeat (first | refine WpL.cons ?_ | refine WpL.nil ?_ | refine WpC.seq ?_ | refine WpC.reg ?_ | refine WpC.ret ?_ | refine WpC.block ?_ | refine WpC.exit rfl ?_ | refine WpC.cond rfl ?_ | refine WpC.skip ?_ | refine WpD.cons ?_ | refine WpD.nil ?_)
    refine Ix.mk k rfl hk ?_
    repeat (first | refine WpL.cons ?_ | refine WpL.nil ?_ | refine WpC.seq ?_ | refine WpC.reg ?_ | refine WpC.ret ?_ | refine WpC.block ?_ | refine WpC.exit rfl ?_ | refine WpC.cond rfl ?_ | refine WpC.skip ?_ | refine WpD.cons ?_ | refine WpD.nil ?_)
    refine Ld.mk ((hcn.ext hxb).out 4 _ rfl) ?_
    repeat (first | refine WpL.cons ?_ | refine WpL.nil ?_ | refine WpC.seq ?_ | refine WpC.reg ?_ | refine WpC.ret ?_ | refine WpC.block ?_ | refine WpC.exit rfl ?_ | refine WpC.cond rfl ?_ | refine WpC.skip ?_ | refine WpD.cons ?_ | refine WpD.nil ?_)
    refine Ix.mk ts.length rfl (by omega) ?_
    repeat (first | refine WpL.cons ?_ | refine WpL.nil ?_ | refine WpC.seq ?_ | refine WpC.reg ?_ | refine WpC.ret ?_ | refine WpC.block ?_ | refine WpC.exit rfl ?_ | refine WpC.cond rfl ?_ | refine WpC.skip ?_ | refine WpD.cons ?_ | refine WpD.nil ?_)
    refine ⟨by have := hm3.sub (k := ts.length * 7 + 4) (m := 1) (by omega); rwa [← Nat.add_assoc] at this, trivial, rfl, by simp [Value.oneCell'], ?_⟩
    repeat (first | refine WpL.cons ?_ | refine WpL.nil ?_ | refine WpC.seq ?_ | refine WpC.reg ?_ | refine WpC.ret ?_ | refine WpC.block ?_ | refine WpC.exit rfl ?_ | refine WpC.cond rfl ?_ | refine WpC.skip ?_ | refine WpD.cons ?_ | refine WpD.nil ?_)
    exact EndV.tree (p := (r.1.set ts.length { m with text := n.text }, 0)) (hxb.trans' (below_setL (Below.refl _ _) (by have := hx0.size; have := hx1.size; omega) _ _)) (hTB1.fin (by have := hx0.size; have := hx1.size; omega) (by rw [setL_size]; exact Nat.le_refl _) (by simp))
theorem sCopyFile_vc (ts : List Nd) (v : Value) (c : Cr) (s s2 : ByteArray) (w : World) (hA : Ask w v ts s) (hA2 : Ask w v ts s2) : Turns 25 #[v, c.v, .string s, .string s2] w (copyFF ts c s s2) := by
  have hF := fun w' (hw : Vc.Ext w w') => sReadFile_vc ts v c s w' (hA.ext hw)
  have hF2 := fun w' (hw : Vc.Ext w w') => sFindNode_vc ts v c s2 w' (hA2.ext hw)
  have hF1 := fun w' (hw : Vc.Ext w w') => sFindNode_vc ts v c s w' (hA.ext hw)
  unfold Turns
  refine calls_of cx_ok Tryz.func25 Tryz.ntmps25 Tryz.results25 rfl rfl ?_
  repeat (first | refine WpL.cons ?_ | refine WpL.nil ?_ | refine WpC.seq ?_ | refine WpC.reg ?_ | refine WpC.ret ?_ | refine WpC.block ?_ | refine WpC.exit rfl ?_ | refine WpC.cond rfl ?_ | refine WpC.skip ?_ | refine WpD.cons ?_ | refine WpD.nil ?_)
  intro b hb
  repeat (first | refine WpL.cons ?_ | refine WpL.nil ?_)
  refine WpC.plain (fun w0 hx0 hO => ?_)
  have hcb : CellsAt w0 b 0 [.int .i64 c.real, .int .i64 c.acts, .int .i64 c.saved, .int .i64 c.groups] := CellsAt.of_block hO.blk0 fun i v hi => by simpa using hi
  repeat (first | refine WpL.cons ?_ | refine WpL.nil ?_ | refine WpC.seq ?_ | refine WpC.reg ?_ | refine WpC.ret ?_ | refine WpC.block ?_ | refine WpC.exit rfl ?_ | refine WpC.cond rfl ?_ | refine WpC.skip ?_ | refine WpD.cons ?_ | refine WpD.nil ?_)
  refine LdN.mk hcb rfl ?_
  repeat (first | refine WpL.cons ?_ | refine WpL.nil ?_ | refine WpC.seq ?_ | refine WpC.reg ?_ | refine WpC.ret ?_ | refine WpC.block ?_ | refine WpC.exit rfl ?_ | refine WpC.cond rfl ?_ | refine WpC.skip ?_ | refine WpD.cons ?_ | refine WpD.nil ?_)
  refine CallV.val (fun w' hw _ => hF w' (hx0.trans hw)) ?_
  rcases file_cases ts c s 4 with ⟨f, he, h1, h4⟩ | ⟨k, n, hfi, he, hn, hk, hT, hc, hok, hfo, hma⟩
  · rw [he, copyFF, he]
    simp only [readF]
    rw [if_pos (by omega), if_pos (by omega)]
    repeat (first | refine WpL.cons ?_ | refine WpL.nil ?_ | refine WpC.seq ?_ | refine WpC.reg ?_ | refine WpC.ret ?_ | refine WpC.block ?_ | refine WpC.exit rfl ?_ | refine WpC.cond rfl ?_ | refine WpC.skip ?_ | refine WpD.cons ?_ | refine WpD.nil ?_)
    refine Br.yes (by simp; omega) ?_
    repeat (first | refine WpL.cons ?_ | refine WpL.nil ?_ | refine WpC.seq ?_ | refine WpC.reg ?_ | refine WpC.ret ?_ | refine WpC.block ?_ | refine WpC.exit rfl ?_ | refine WpC.cond rfl ?_ | refine WpC.skip ?_ | refine WpD.cons ?_ | refine WpD.nil ?_)
    refine Made.mk fun g9 w9 hx9 _ _ _ _ => ?_
    repeat (first | refine WpL.cons ?_ | refine WpL.nil ?_ | refine WpC.seq ?_ | refine WpC.reg ?_ | refine WpC.ret ?_ | refine WpC.block ?_ | refine WpC.exit rfl ?_ | refine WpC.cond rfl ?_ | refine WpC.skip ?_ | refine WpD.cons ?_ | refine WpD.nil ?_)
    exact EndV.tree (p := ([], f)) (hx0.trans hx9) (TreeB.empty _ _ _ _ _)
  obtain ⟨ad, cap, rfl, hat⟩ := hA.tree.node
  obtain ⟨nb, no, nv, kv, rfl, hcn, hN⟩ := hat k n hn
  have hcf : copyFF ts c s s2 = if (findF ts c s2).2 ≠ 2 then writeF (fileF (findF ts c s2) ts c 2) ts n.text else
      if (makeF (abvF ts c s2) ts c false (n.mode % 512)).2 ≠ 0 then ([], (makeF (abvF ts c s2) ts c false (n.mode % 512)).2) else (textF (makeF (abvF ts c s2) ts c false (n.mode % 512)).1 ts.length n.text, 0) := by
    rw [copyFF, he, if_neg (by simp)]; simp only [Int.toNat_natCast, hn]
  rw [hcf, he]
  have hrd : readF ((k : Int), 0) ts = (n.text, 0) := by rw [readF, if_neg (by simp)]; simp [hn]
  rw [hrd]
  repeat (first | refine WpL.cons ?_ | refine WpL.nil ?_ | refine WpC.seq ?_ | refine WpC.reg ?_ | refine WpC.ret ?_ | refine WpC.block ?_ | refine WpC.exit rfl ?_ | refine WpC.cond rfl ?_ | refine WpC.skip ?_ | refine WpD.cons ?_ | refine WpD.nil ?_)
  refine LdN.mk hcb rfl ?_
  repeat (first | refine WpL.cons ?_ | refine WpL.nil ?_ | refine WpC.seq ?_ | refine WpC.reg ?_ | refine WpC.ret ?_ | refine WpC.block ?_ | refine WpC.exit rfl ?_ | refine WpC.cond rfl ?_ | refine WpC.skip ?_ | refine WpD.cons ?_ | refine WpD.nil ?_)
  refine CallV.val (fun w' hw _ => hF1 w' (hx0.trans hw)) ?_
  rw [hfi]
  repeat (first | refine WpL.cons ?_ | refine WpL.nil ?_ | refine WpC.seq ?_ | refine WpC.reg ?_ | refine WpC.ret ?_ | refine WpC.block ?_ | refine WpC.exit rfl ?_ | refine WpC.cond rfl ?_ | refine WpC.skip ?_ | refine WpD.cons ?_ | refine WpD.nil ?_)
  refine LdN.mk hcb rfl ?_
  repeat (first | refine WpL.cons ?_ | refine WpL.nil ?_ | refine WpC.seq ?_ | refine WpC.reg ?_ | refine WpC.ret ?_ | refine WpC.block ?_ | refine WpC.exit rfl ?_ | refine WpC.cond rfl ?_ | refine WpC.skip ?_ | refine WpD.cons ?_ | refine WpD.nil ?_)
  refine CallV.val (fun w' hw _ => hF2 w' (hx0.trans hw)) ?_
  generalize hf2 : (findF ts c s2) = f2
  obtain ⟨q, f⟩ := f2
  simp only
  repeat (first | refine WpL.cons ?_ | refine WpL.nil ?_ | refine WpC.seq ?_ | refine WpC.reg ?_ | refine WpC.ret ?_ | refine WpC.block ?_ | refine WpC.exit rfl ?_ | refine WpC.cond rfl ?_ | refine WpC.skip ?_ | refine WpD.cons ?_ | refine WpD.nil ?_)
  refine Br.intro (fun h => ?_) (fun h => ?_)
  · rw [if_pos (by simpa using h)]
    repeat (first | refine WpL.cons ?_ | refine WpL.nil ?_ | refine WpC.seq ?_ | refine WpC.reg ?_ | refine WpC.ret ?_ | refine WpC.block ?_ | refine WpC.exit rfl ?_ | refine WpC.cond rfl ?_ | refine WpC.skip ?_ | refine WpD.cons ?_ | refine WpD.nil ?_)
    refine LdN.mk hcb rfl ?_
    repeat (first | refine WpL.cons ?_ | refine WpL.nil ?_ | refine WpC.seq ?_ | refine WpC.reg ?_ | refine WpC.ret ?_ | refine WpC.block ?_ | refine WpC.exit rfl ?_ | refine WpC.cond rfl ?_ | refine WpC.skip ?_ | refine WpD.cons ?_ | refine WpD.nil ?_)
    refine CallV.mem _ (fun w' hw _ => (hf2 ▸ sWriteFile_vc ts _ c s2 n.text w' (hA2.ext (hx0.trans hw)) : Turns _ _ _ _).out) (fun x4 wa wb hx1 hx2 _ hMk => ?_)
    obtain ⟨u4, rfl, hB4⟩ := hMk
    repeat (first | refine WpL.cons ?_ | refine WpL.nil ?_ | refine WpC.seq ?_ | refine WpC.reg ?_ | refine WpC.ret ?_ | refine WpC.block ?_ | refine WpC.exit rfl ?_ | refine WpC.cond rfl ?_ | refine WpC.skip ?_ | refine WpD.cons ?_ | refine WpD.nil ?_)
    exact EndV.tree (p := writeF (fileF (q, f) ts c 2) ts n.text) ((hx0.trans hx1).trans hx2) (hB4.low (by have := hx0.size; have := hx1.size; omega))
  · rw [if_neg (by simpa using h)]
    repeat (first | refine WpL.cons ?_ | refine WpL.nil ?_ | refine WpC.seq ?_ | refine WpC.reg ?_ | refine WpC.ret ?_ | refine WpC.block ?_ | refine WpC.exit rfl ?_ | refine WpC.cond rfl ?_ | refine WpC.skip ?_ | refine WpD.cons ?_ | refine WpD.nil ?_)
    have hmode := inR_iff.1 hok.mod
    have hMk : ∀ w', Vc.Ext w w' → Turns 17 #[.slice (some ⟨nb, no, none⟩) ts.length cap, c.v, .string s2, .bool false, .int .i64 (n.mode % 512)] w' (makeF (abvF ts c s2) ts c false (n.mode % 512)) := fun w' hw => by
      exact sMakeNode_vc ts _ c s2 false (n.mode % 512) w' (hA2.ext hw)
    have hml := fun h0 => make_len (ts := ts) (c := c) (s := s2) (folder := false) (mode := n.mode % 512) h0
    generalize makeF (abvF ts c s2) ts c false (n.mode % 512) = r at hMk hml ⊢
    refine WpC.drawE (.st 0 (.st 1 (.st 2 (.st 3 (.st 4 (.st 5 (.st 6 (.st 7 (.st 8 (.ef 9 (.st 10 (.st 11 (.st 12 (.st 13 (.st 14 .done))))) .done)))))))))) [(0, .mv), (2, .mv), (3, .mv), (4, .mv), (9, .ef), (10, .mv), (13, .mv), (14, .mv)] (by kernel_rfl) ?_
    repeat (first | refine WpE.mv (by exact rfl) (by exact rfl) ?_ | refine WpE.rd (by exact rfl) (by exact rfl) ?_ | refine WpE.ef (by exact rfl) (by exact rfl) ?_ | refine WpE.br (by exact rfl) (by exact rfl) ?_ | refine WpE.after ?_ | refine WpE.done ?_ | refine WpL.cons ?_ | refine WpL.nil ?_ | refine WpC.seq ?_ | refine WpC.reg ?_ | refine WpC.ret ?_ | refine WpC.block ?_ | refine WpC.exit rfl ?_ | refine WpC.cond rfl ?_ | refine WpC.skip ?_ | refine WpD.cons ?_ | refine WpD.nil ?_)
    refine LdN.mk hcb rfl ?_
    repeat (first | refine WpE.mv (by exact rfl) (by exact rfl) ?_ | refine WpE.rd (by exact rfl) (by exact rfl) ?_ | refine WpE.ef (by exact rfl) (by exact rfl) ?_ | refine WpE.br (by exact rfl) (by exact rfl) ?_ | refine WpE.after ?_ | refine WpE.done ?_ | refine WpL.cons ?_ | refine WpL.nil ?_ | refine WpC.seq ?_ | refine WpC.reg ?_ | refine WpC.ret ?_ | refine WpC.block ?_ | refine WpC.exit rfl ?_ | refine WpC.cond rfl ?_ | refine WpC.skip ?_ | refine WpD.cons ?_ | refine WpD.nil ?_)
    refine Ix.mk k rfl hk ?_
    repeat (first | refine WpE.mv (by exact rfl) (by exact rfl) ?_ | refine WpE.rd (by exact rfl) (by exact rfl) ?_ | refine WpE.ef (by exact rfl) (by exact rfl) ?_ | refine WpE.br (by exact rfl) (by exact rfl) ?_ | refine WpE.after ?_ | refine WpE.done ?_ | refine WpL.cons ?_ | refine WpL.nil ?_ | refine WpC.seq ?_ | refine WpC.reg ?_ | refine WpC.ret ?_ | refine WpC.block ?_ | refine WpC.exit rfl ?_ | refine WpC.cond rfl ?_ | refine WpC.skip ?_ | refine WpD.cons ?_ | refine WpD.nil ?_)
    refine Ld.mk ((hcn.ext hx0).out 3 _ rfl) ?_
    repeat (first | refine WpE.mv (by exact rfl) (by exact rfl) ?_ | refine WpE.rd (by exact rfl) (by exact rfl) ?_ | refine WpE.ef (by exact rfl) (by exact rfl) ?_ | refine WpE.br (by exact rfl) (by exact rfl) ?_ | refine WpE.after ?_ | refine WpE.done ?_ | refine WpL.cons ?_ | refine WpL.nil ?_ | refine WpC.seq ?_ | refine WpC.reg ?_ | refine WpC.ret ?_ | refine WpC.block ?_ | refine WpC.exit rfl ?_ | refine WpC.cond rfl ?_ | refine WpC.skip ?_ | refine WpD.cons ?_ | refine WpD.nil ?_)
    refine ⟨⟨by omega, by omega⟩, ?_⟩
    repeat (first | refine WpE.mv (by exact rfl) (by exact rfl) ?_ | refine WpE.rd (by exact rfl) (by exact rfl) ?_ | refine WpE.ef (by exact rfl) (by exact rfl) ?_ | refine WpE.br (by exact rfl) (by exact rfl) ?_ | refine WpE.after ?_ | refine WpE.done ?_ | refine WpL.cons ?_ | refine WpL.nil ?_ | refine WpC.seq ?_ | refine WpC.reg ?_ | refine WpC.ret ?_ | refine WpC.block ?_ | refine WpC.exit rfl ?_ | refine WpC.cond rfl ?_ | refine WpC.skip ?_ | refine WpD.cons ?_ | refine WpD.nil ?_)
    refine CallV.mem _ (fun w' hw _ => (hMk w' (hx0.trans hw)).out) (fun x4 wa wb hx1 hx2 _ hR => ?_)
    obtain ⟨u4, rfl, hB4⟩ := hR
    refine ⟨Keep.ext (hx1.trans hx2), ?_⟩
    repeat (first | refine WpE.mv (by exact rfl) (by exact rfl) ?_ | refine WpE.rd (by exact rfl) (by exact rfl) ?_ | refine WpE.ef (by exact rfl) (by exact rfl) ?_ | refine WpE.br (by exact rfl) (by exact rfl) ?_ | refine WpE.after ?_ | refine WpE.done ?_ | refine WpL.cons ?_ | refine WpL.nil ?_ | refine WpC.seq ?_ | refine WpC.reg ?_ | refine WpC.ret ?_ | refine WpC.block ?_ | refine WpC.exit rfl ?_ | refine WpC.cond rfl ?_ | refine WpC.skip ?_ | refine WpD.cons ?_ | refine WpD.nil ?_)
    have hxb := (hx0.trans hx1).trans hx2
    refine Br.intro (fun h2 => ?_) (fun h2 => ?_)
    · rw [if_pos (by simpa using h2)]
      repeat (first | refine WpL.cons ?_ | refine WpL.nil ?_ | refine WpC.seq ?_ | refine WpC.reg ?_ | refine WpC.ret ?_ | refine WpC.block ?_ | refine WpC.exit rfl ?_ | refine WpC.cond rfl ?_ | refine WpC.skip ?_ | refine WpD.cons ?_ | refine WpD.nil ?_)
      refine Made.mk fun g9 w9 hx9 _ _ _ _ => ?_
      repeat (first | refine WpL.cons ?_ | refine WpL.nil ?_ | refine WpC.seq ?_ | refine WpC.reg ?_ | refine WpC.ret ?_ | refine WpC.block ?_ | refine WpC.exit rfl ?_ | refine WpC.cond rfl ?_ | refine WpC.skip ?_ | refine WpD.cons ?_ | refine WpD.nil ?_)
      exact EndV.tree (p := ([], r.2)) (hxb.trans hx9) (TreeB.empty _ _ _ _ _)
    have h0 : r.2 = 0 := by simpa using h2
    rw [if_neg (by simp [h0])]
    obtain ⟨hlen, h16⟩ := hml h0
    obtain ⟨ad', cap', g, bl, pv, rfl, hTB⟩ := hB4
    have hk4 : ts.length < r.1.length := by omega
    have hm4 : r.1[ts.length]? = some r.1[ts.length] := List.getElem?_eq_getElem hk4
    generalize r.1[ts.length] = m at hm4
    obtain ⟨rfl, hlo3, hhi3, hm3, hcs3⟩ := hTB.open_ hk4
    have hle3 := hTB.le
    have hTB1 := TB.setC (n' := { m with text := n.text }) (x := .string n.text) (c := 4) hTB hm4 (Nat.le_refl _) (by omega) rfl rfl rfl
    rw [text_at hm4]
    repeat (first | refine WpL.cons ?_ | refine WpL.nil ?_ | refine WpC.seq ?_ | refine WpC.reg ?_ | refine WpC.ret ?_ | refine WpC.block ?_ | refine WpC.exit rfl ?_ | refine WpC.cond rfl ?_ | refine WpC.skip ?_ | refine WpD.cons ?_ | refine WpD.nil ?_)
    refine ⟨I64.mk (by omega), ?_⟩
    repeat (first | refine WpL.cons ?_ | refine WpL.nil ?_ | refine WpC.seq ?_ | refine WpC.reg ?_ | refine WpC.ret ?_ | refine WpC.block ?_ | refine WpC.exit rfl ?_ | refine WpC.cond rfl ?_ | refine WpC.skip ?_ | refine WpD.cons ?_ | refine WpD.nil ?_)
    refine Ix.mk ts.length (by omega) (by omega) ?_
    repeat (first | refine WpL.cons ?_ | refine WpL.nil ?_ | refine WpC.seq ?_ | refine WpC.reg ?_ | refine WpC.ret ?_ | refine WpC.block ?_ | refine WpC.exit rfl ?_ | refine WpC.cond rfl ?_ | refine WpC.skip ?_ | refine WpD.cons ?_ | refine WpD.nil ?_)
    refine ⟨by have := hm3.sub (k := ts.length * 7 + 4) (m := 1) (by omega); rwa [← Nat.add_assoc] at this, trivial, rfl, by simp [Value.oneCell'], ?_⟩
    repeat (first | refine WpL.cons ?_ | refine WpL.nil ?_ | refine WpC.seq ?_ | refine WpC.reg ?_ | refine WpC.ret ?_ | refine WpC.block ?_ | refine WpC.exit rfl ?_ | refine WpC.cond rfl ?_ | refine WpC.skip ?_ | refine WpD.cons ?_ | refine WpD.nil ?_)
    exact EndV.tree (p := (r.1.set ts.length { m with text := n.text }, 0)) (hxb.trans' (below_setL (Below.refl _ _) (by have := hx0.size; have := hx1.size; omega) _ _)) (hTB1.fin (by have := hx0.size; have := hx1.size; omega) (by rw [setL_size]; exact Nat.le_refl _) (by simp))
theorem cntNds_set_le {ts : List Nd} {k : Nat} {n : Nd} {text : ByteArray} (h : ts[k]? = some n) : cntNds (ts.set k { n with text := text }) = cntNds ts := cntNds_set h rfl
theorem copyF_cnt (ts : List Nd) (c : Cr) (s s2 : ByteArray) (hs : Sized ts) (h : cntNds ts ≤ 6291456) : cntNds (copyFF ts c s s2).1 ≤ 100000000 := by
  rw [copyFF]
  split
  · simp [cntNds]
  · split
    · simp [cntNds]
    · rename_i n hn
      split
      · exact write_cnt ts c s2 n.text hs h
      · split
        · simp [cntNds]
        · have hm := make_cnt ts c s2 false (n.mode % 512) hs h
          simp only [textF]
          split
          · exact hm
          · rename_i m hm'
            rw [cntNds_set_le hm']; exact hm

end Go.Proofs.YtbnjjpgacemicaaGreatDoor
