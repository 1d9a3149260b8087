/-
  Contracts: ChangeMode, GiveNode, WriteFile, ListNames; the program's and the reference's.
  Conditions: bounds; the library's variable MaxLen holds some number.
-/
import Derived.Test.YtbnjjpgacemicaaGreatDoorTurnB
import Derived.Test.YtbnjjpgacemicaaGreatDoorFinds
namespace Go.Proofs.YtbnjjpgacemicaaGreatDoor
open Go.RowKit Vc
set_option linter.unusedVariables false
set_option maxHeartbeats 2000000
attribute [local irreducible] WpC WpL WpD WpE WpB CallV QCallV Made AppV Ld LdN Ix EndV I64 MutN Mut CellsAt

/-- Neither the user 0 nor the owner? -/
def notMine (c : Cr) (n : Nd) : Bool := !decide (c.acts = 0) && !decide (c.acts = n.owner)
def chmodF (f : Int × Int) (ts : List Nd) (c : Cr) (mode : Int) : List Nd × Int := if inR mode 0 1023 = false then ([], 1) else if f.2 ≠ 0 then ([], f.2) else match ts[f.1.toNat]? with
  | none => ([], 0)
  | some n => if notMine c n then ([], 3) else (ts.set f.1.toNat { n with mode := mode }, 0)
theorem chmod_at {ts : List Nd} {c : Cr} {mode : Int} {k : Nat} {n : Nd} (h : inR mode 0 1023 = true) (hn : ts[k]? = some n) : chmodF ((k : Int), 0) ts c mode = if notMine c n then ([], 3) else (ts.set k { n with mode := mode }, 0) := by
  rw [chmodF, if_neg (by simp [h])]; simp [hn]
def giveB (c : Cr) (n : Nd) (o g : Int) : Bool := !decide (c.acts = 0) && (!decide (c.acts = n.owner) || (!decide (o = n.owner) || (!decide (g = n.group) && !hasG c.groups g)))
def giveF (f : Int × Int) (ts : List Nd) (c : Cr) (o g : Int) : List Nd × Int := if (inR o 0 99 && inR g 0 7) = false then ([], 1) else if f.2 ≠ 0 then ([], f.2) else match ts[f.1.toNat]? with
  | none => ([], 0)
  | some n => if giveB c n o g then ([], 3) else (ts.set f.1.toNat { n with owner := o, group := g }, 0)
theorem give_at {ts : List Nd} {c : Cr} {o g : Int} {k : Nat} {n : Nd} (h : (inR o 0 99 && inR g 0 7) = true) (hn : ts[k]? = some n) : giveF ((k : Int), 0) ts c o g = if giveB c n o g then ([], 3) else (ts.set k { n with owner := o, group := g }, 0) := by
  rw [giveF, if_neg (by simp [h])]; simp [hn]
def writeF (f : Int × Int) (ts : List Nd) (text : ByteArray) : List Nd × Int := if f.2 ≠ 0 then ([], f.2) else if 40 < text.size then ([], 6) else match ts[f.1.toNat]? with
  | none => ([], 0)
  | some n => (ts.set f.1.toNat { n with text := text }, 0)
theorem write_at {ts : List Nd} {text : ByteArray} {k : Nat} {n : Nd} (hn : ts[k]? = some n) : writeF ((k : Int), 0) ts text = if 40 < text.size then ([], 6) else (ts.set k { n with text := text }, 0) := by
  rw [writeF, if_neg (by simp)]; simp [hn]

theorem iWriteFile_vc (ts : List Nd) (v : Value) (c : Cr) (s text : ByteArray) (w : World) (hA : Ask w v ts s) : Turns 70 #[v, c.v, .string s, .string text] w (writeF (fileF (findF ts c s) ts c 2) ts text) := by
  have hF := fun w' (hw : Vc.Ext w w') => fileAt_vc ts v c s 2 (by decide) w' (hA.ext hw)
  unfold Turns
  rcases file_cases ts c s 2 with ⟨f, he, h1, h4⟩ | ⟨k, n, hfi, he, hn, hk, hT, hc, hok, hfo, hma⟩
  · rw [he] at hF ⊢
    rw [writeF]
    simp only
    rw [if_pos (by omega)]
    refine calls_of cx_ok Tryz.func70 Tryz.ntmps70 Tryz.results70 rfl rfl ?_
    repeat (first | refine jC ?_ | refine jN ?_ | refine jS ?_ | refine jR ?_ | refine jT ?_ | refine jB ?_ | refine jX rfl ?_ | refine jY rfl ?_ | refine jK ?_ | refine jD ?_ | refine jE ?_)
    intro b hb
    repeat (first | refine jC ?_ | refine jN ?_ | refine jS ?_ | refine jR ?_ | refine jT ?_ | refine jB ?_ | refine jX rfl ?_ | refine jY rfl ?_ | refine jK ?_ | refine jD ?_ | refine jE ?_)
    refine CallV.val (fun w' hw _ => hF w' hw) ?_
    repeat (first | refine jC ?_ | refine jN ?_ | refine jS ?_ | refine jR ?_ | refine jT ?_ | refine jB ?_ | refine jX rfl ?_ | refine jY rfl ?_ | refine jK ?_ | refine jD ?_ | refine jE ?_)
    refine Br.yes (by simp; omega) ?_
    repeat (first | refine jC ?_ | refine jN ?_ | refine jS ?_ | refine jR ?_ | refine jT ?_ | refine jB ?_ | refine jX rfl ?_ | refine jY rfl ?_ | refine jK ?_ | refine jD ?_ | refine jE ?_)
    exact EndV.tree (p := ([], f)) (Vc.Ext.refl _) (TreeB.nil _ _ _)
  · rw [he] at hF ⊢
    obtain ⟨ad, cap, rfl, hat⟩ := hA.tree.node
    obtain ⟨nb, no, nv, kv, rfl, hcn, hN⟩ := hat k n hn
    rw [write_at hn]
    refine calls_of cx_ok Tryz.func70 Tryz.ntmps70 Tryz.results70 rfl rfl ?_
    repeat (first | refine jC ?_ | refine jN ?_ | refine jS ?_ | refine jR ?_ | refine jT ?_ | refine jB ?_ | refine jX rfl ?_ | refine jY rfl ?_ | refine jK ?_ | refine jD ?_ | refine jE ?_)
    intro b hb
    repeat (first | refine jC ?_ | refine jN ?_ | refine jS ?_ | refine jR ?_ | refine jT ?_ | refine jB ?_ | refine jX rfl ?_ | refine jY rfl ?_ | refine jK ?_ | refine jD ?_ | refine jE ?_)
    refine CallV.val (fun w' hw _ => hF w' hw) ?_
    repeat (first | refine jC ?_ | refine jN ?_ | refine jS ?_ | refine jR ?_ | refine jT ?_ | refine jB ?_ | refine jX rfl ?_ | refine jY rfl ?_ | refine jK ?_ | refine jD ?_ | refine jE ?_)
    refine Br.intro (fun h => ?_) (fun h => ?_)
    · rw [if_pos (by have := of_decide_eq_true h; omega)]
      repeat (first | refine jC ?_ | refine jN ?_ | refine jS ?_ | refine jR ?_ | refine jT ?_ | refine jB ?_ | refine jX rfl ?_ | refine jY rfl ?_ | refine jK ?_ | refine jD ?_ | refine jE ?_)
      exact EndV.tree (p := ([], 6)) (Vc.Ext.refl _) (TreeB.nil _ _ _)
    rw [if_neg (by have := of_decide_eq_false h; omega)]
    repeat (first | refine jC ?_ | refine jN ?_ | refine jS ?_ | refine jR ?_ | refine jT ?_ | refine jB ?_ | refine jX rfl ?_ | refine jY rfl ?_ | refine jK ?_ | refine jD ?_ | refine jE ?_)
    refine CallV.mem _ (fun w' hw _ => iCopy_vc ts _ w' (hA.tree.ext hw) hA.sized) (fun x1 wa wb hx1 hx2 hO hB => ?_)
    obtain ⟨ad', cap', g, bl, pv, rfl, hTB⟩ := hB
    obtain ⟨rfl, hlo, hhi, hm, hcs⟩ := hTB.open_ hk
    have hbw := hO.lt (i := 0) rfl
    simp only at hbw
    have hsa := hx1.size
    repeat (first | refine jC ?_ | refine jN ?_ | refine jS ?_ | refine jR ?_ | refine jT ?_ | refine jB ?_ | refine jX rfl ?_ | refine jY rfl ?_ | refine jK ?_ | refine jD ?_ | refine jE ?_)
    refine Ix.mk k rfl hk ?_
    repeat (first | refine jC ?_ | refine jN ?_ | refine jS ?_ | refine jR ?_ | refine jT ?_ | refine jB ?_ | refine jX rfl ?_ | refine jY rfl ?_ | refine jK ?_ | refine jD ?_ | refine jE ?_)
    refine ⟨by have := hm.sub (k := k * 7 + 4) (m := 1) (by have := hTB.le; omega); rwa [← Nat.add_assoc] at this, ⟨by show b ≠ g; omega, trivial⟩, rfl, by simp [Value.oneCell'], ?_⟩
    repeat (first | refine jC ?_ | refine jN ?_ | refine jS ?_ | refine jR ?_ | refine jT ?_ | refine jB ?_ | refine jX rfl ?_ | refine jY rfl ?_ | refine jK ?_ | refine jD ?_ | refine jE ?_)
    have hTB1 := TB.setC (n' := { n with text := text }) (x := .string text) (c := 4) hTB hn (Nat.le_refl _) (by omega) rfl rfl rfl
    have hm1 : MutN (setL wb g (0 + k * 7 + 4) [.string text]) g 0 (cap' * 7) := MutN.setL _ _ _ hm
    exact EndV.tree (p := (ts.set k { n with text := text }, 0)) ((hx1.trans hx2).trans' (below_setL (Below.refl _ _) (by omega) _ _)) (hTB1.fin (by omega) (by rw [setL_size]; exact Nat.le_refl _) (by simp))
theorem sWriteFile_vc (ts : List Nd) (v : Value) (c : Cr) (s text : ByteArray) (w : World) (hA : Ask w v ts s) : Turns 68 #[v, c.v, .string s, .string text] w (writeF (fileF (findF ts c s) ts c 2) ts text) := by
  have hF := fun w' (hw : Vc.Ext w w') => sFindNode_vc ts v c s w' (hA.ext hw)
  unfold Turns
  rcases find_cases ts c s with ⟨f, he, h1, h4⟩ | ⟨k, n, he, hn, hk, hT, hc, hok⟩
  · rw [he] at hF ⊢
    have e3 : fileF (-1, f) ts c 2 = (-1, f) := by rw [fileF]; simp only; rw [if_pos (by omega)]
    rw [e3, writeF]
    simp only
    rw [if_pos (by omega)]
    refine calls_of cx_ok Tryz.func68 Tryz.ntmps68 Tryz.results68 rfl rfl ?_
    repeat (first | refine jC ?_ | refine jN ?_ | refine jS ?_ | refine jR ?_ | refine jT ?_ | refine jB ?_ | refine jX rfl ?_ | refine jY rfl ?_ | refine jK ?_ | refine jD ?_ | refine jE ?_)
    intro b hb
    repeat (first | refine jC ?_ | refine jN ?_ | refine jS ?_ | refine jR ?_ | refine jT ?_ | refine jB ?_ | refine jX rfl ?_ | refine jY rfl ?_ | refine jK ?_ | refine jD ?_ | refine jE ?_)
    refine CallV.val (fun w' hw _ => hF w' hw) ?_
    repeat (first | refine jC ?_ | refine jN ?_ | refine jS ?_ | refine jR ?_ | refine jT ?_ | refine jB ?_ | refine jX rfl ?_ | refine jY rfl ?_ | refine jK ?_ | refine jD ?_ | refine jE ?_)
    refine Br.yes (by simp; omega) ?_
    repeat (first | refine jC ?_ | refine jN ?_ | refine jS ?_ | refine jR ?_ | refine jT ?_ | refine jB ?_ | refine jX rfl ?_ | refine jY rfl ?_ | refine jK ?_ | refine jD ?_ | refine jE ?_)
    refine Made.mk fun g9 w9 hx9 _ _ _ _ => ?_
    repeat (first | refine jC ?_ | refine jN ?_ | refine jS ?_ | refine jR ?_ | refine jT ?_ | refine jB ?_ | refine jX rfl ?_ | refine jY rfl ?_ | refine jK ?_ | refine jD ?_ | refine jE ?_)
    exact EndV.tree (p := ([], f)) ((Vc.Ext.refl _).trans hx9) (TreeB.empty _ _ _ _ _)
  · rw [he] at hF ⊢
    obtain ⟨ad, cap, rfl, hat⟩ := hA.tree.node
    obtain ⟨nb, no, nv, kv, rfl, hcn, hN⟩ := hat k n hn
    have e : fileF ((k : Int), 0) ts c 2 = if n.folder then (-1, 4) else if mayN c n 2 then ((k : Int), 0) else (-1, 3) := by rw [fileF, if_neg (by simp)]; simp [hn]
    rw [e]
    refine calls_of cx_ok Tryz.func68 Tryz.ntmps68 Tryz.results68 rfl rfl ?_
    repeat (first | refine jC ?_ | refine jN ?_ | refine jS ?_ | refine jR ?_ | refine jT ?_ | refine jB ?_ | refine jX rfl ?_ | refine jY rfl ?_ | refine jK ?_ | refine jD ?_ | refine jE ?_)
    intro b hb
    repeat (first | refine jC ?_ | refine jN ?_ | refine jS ?_ | refine jR ?_ | refine jT ?_ | refine jB ?_ | refine jX rfl ?_ | refine jY rfl ?_ | refine jK ?_ | refine jD ?_ | refine jE ?_)
    refine CallV.val (fun w' hw _ => hF w' hw) ?_
    repeat (first | refine jC ?_ | refine jN ?_ | refine jS ?_ | refine jR ?_ | refine jT ?_ | refine jB ?_ | refine jX rfl ?_ | refine jY rfl ?_ | refine jK ?_ | refine jD ?_ | refine jE ?_)
    refine Ix.mk k rfl hk ?_
    repeat (first | refine jC ?_ | refine jN ?_ | refine jS ?_ | refine jR ?_ | refine jT ?_ | refine jB ?_ | refine jX rfl ?_ | refine jY rfl ?_ | refine jK ?_ | refine jD ?_ | refine jE ?_)
    refine Ld.mk (hcn.out 0 _ rfl) ?_
    repeat (first | refine jC ?_ | refine jN ?_ | refine jS ?_ | refine jR ?_ | refine jT ?_ | refine jB ?_ | refine jX rfl ?_ | refine jY rfl ?_ | refine jK ?_ | refine jD ?_ | refine jE ?_)
    refine Br.intro (fun h => ?_) (fun h => ?_)
    · rw [if_pos h]
      have e4 : writeF (-1, 4) ts text = ([], 4) := rfl
      rw [e4]
      repeat (first | refine jC ?_ | refine jN ?_ | refine jS ?_ | refine jR ?_ | refine jT ?_ | refine jB ?_ | refine jX rfl ?_ | refine jY rfl ?_ | refine jK ?_ | refine jD ?_ | refine jE ?_)
      refine Made.mk fun g9 w9 hx9 _ _ _ _ => ?_
      repeat (first | refine jC ?_ | refine jN ?_ | refine jS ?_ | refine jR ?_ | refine jT ?_ | refine jB ?_ | refine jX rfl ?_ | refine jY rfl ?_ | refine jK ?_ | refine jD ?_ | refine jE ?_)
      exact EndV.tree (p := ([], 4)) ((Vc.Ext.refl _).trans hx9) (TreeB.empty _ _ _ _ _)
    rw [if_neg (by simp [h])]
    repeat (first | refine jC ?_ | refine jN ?_ | refine jS ?_ | refine jR ?_ | refine jT ?_ | refine jB ?_ | refine jX rfl ?_ | refine jY rfl ?_ | refine jK ?_ | refine jD ?_ | refine jE ?_)
    refine WpC.draw (by kernel_rfl) ?_
    repeat (first | refine jC ?_ | refine jN ?_ | refine jS ?_ | refine jR ?_ | refine jT ?_ | refine jB ?_ | refine jX rfl ?_ | refine jY rfl ?_ | refine jK ?_ | refine jD ?_ | refine jE ?_)
    refine Ix.mk k rfl hk ?_
    repeat (first | refine jC ?_ | refine jN ?_ | refine jS ?_ | refine jR ?_ | refine jT ?_ | refine jB ?_ | refine jX rfl ?_ | refine jY rfl ?_ | refine jK ?_ | refine jD ?_ | refine jE ?_)
    refine LdN.mk hcn rfl ?_
    repeat (first | refine jC ?_ | refine jN ?_ | refine jS ?_ | refine jR ?_ | refine jT ?_ | refine jB ?_ | refine jX rfl ?_ | refine jY rfl ?_ | refine jK ?_ | refine jD ?_ | refine jE ?_)
    refine QCallV.val (fun w' _ _ => sMay_vc n nv kv c 2 w' hc hok (by decide)) ?_
    repeat (first | refine jC ?_ | refine jN ?_ | refine jS ?_ | refine jR ?_ | refine jT ?_ | refine jB ?_ | refine jX rfl ?_ | refine jY rfl ?_ | refine jK ?_ | refine jD ?_ | refine jE ?_)
    refine Br.intro (fun h2 => ?_) (fun h2 => ?_)
    · rw [if_neg (by simpa using h2)]
      have e4 : writeF (-1, 3) ts text = ([], 3) := rfl
      rw [e4]
      repeat (first | refine jC ?_ | refine jN ?_ | refine jS ?_ | refine jR ?_ | refine jT ?_ | refine jB ?_ | refine jX rfl ?_ | refine jY rfl ?_ | refine jK ?_ | refine jD ?_ | refine jE ?_)
      refine Made.mk fun g9 w9 hx9 _ _ _ _ => ?_
      repeat (first | refine jC ?_ | refine jN ?_ | refine jS ?_ | refine jR ?_ | refine jT ?_ | refine jB ?_ | refine jX rfl ?_ | refine jY rfl ?_ | refine jK ?_ | refine jD ?_ | refine jE ?_)
      exact EndV.tree (p := ([], 3)) ((Vc.Ext.refl _).trans hx9) (TreeB.empty _ _ _ _ _)
    rw [if_pos (by simpa using h2), write_at hn]
    repeat (first | refine jC ?_ | refine jN ?_ | refine jS ?_ | refine jR ?_ | refine jT ?_ | refine jB ?_ | refine jX rfl ?_ | refine jY rfl ?_ | refine jK ?_ | refine jD ?_ | refine jE ?_)
    refine Br.intro (fun h5 => ?_) (fun h5 => ?_)
    · rw [if_pos (by have := of_decide_eq_true h5; omega)]
      repeat (first | refine jC ?_ | refine jN ?_ | refine jS ?_ | refine jR ?_ | refine jT ?_ | refine jB ?_ | refine jX rfl ?_ | refine jY rfl ?_ | refine jK ?_ | refine jD ?_ | refine jE ?_)
      refine Made.mk fun g9 w9 hx9 _ _ _ _ => ?_
      repeat (first | refine jC ?_ | refine jN ?_ | refine jS ?_ | refine jR ?_ | refine jT ?_ | refine jB ?_ | refine jX rfl ?_ | refine jY rfl ?_ | refine jK ?_ | refine jD ?_ | refine jE ?_)
      exact EndV.tree (p := ([], 6)) ((Vc.Ext.refl _).trans hx9) (TreeB.empty _ _ _ _ _)
    rw [if_neg (by have := of_decide_eq_false h5; omega)]
    repeat (first | refine jC ?_ | refine jN ?_ | refine jS ?_ | refine jR ?_ | refine jT ?_ | refine jB ?_ | refine jX rfl ?_ | refine jY rfl ?_ | refine jK ?_ | refine jD ?_ | refine jE ?_)
    refine CallV.mem _ (fun w' hw _ => sCopy_vc ts _ w' (hA.tree.ext hw) hA.sized) (fun x1 wa wb hx1 hx2 hO hB => ?_)
    obtain ⟨ad', cap', g, bl, pv, rfl, hTB⟩ := hB
    obtain ⟨rfl, hlo, hhi, hm, hcs⟩ := hTB.open_ hk
    have hbw := hO.lt (i := 0) rfl
    simp only at hbw
    have hsa := hx1.size
    repeat (first | refine jC ?_ | refine jN ?_ | refine jS ?_ | refine jR ?_ | refine jT ?_ | refine jB ?_ | refine jX rfl ?_ | refine jY rfl ?_ | refine jK ?_ | refine jD ?_ | refine jE ?_)
    refine Ix.mk k rfl hk ?_
    repeat (first | refine jC ?_ | refine jN ?_ | refine jS ?_ | refine jR ?_ | refine jT ?_ | refine jB ?_ | refine jX rfl ?_ | refine jY rfl ?_ | refine jK ?_ | refine jD ?_ | refine jE ?_)
    refine ⟨by have := hm.sub (k := k * 7 + 4) (m := 1) (by have := hTB.le; omega); rwa [← Nat.add_assoc] at this, ⟨by show b ≠ g; omega, trivial⟩, rfl, by simp [Value.oneCell'], ?_⟩
    repeat (first | refine jC ?_ | refine jN ?_ | refine jS ?_ | refine jR ?_ | refine jT ?_ | refine jB ?_ | refine jX rfl ?_ | refine jY rfl ?_ | refine jK ?_ | refine jD ?_ | refine jE ?_)
    have hTB1 := TB.setC (n' := { n with text := text }) (x := .string text) (c := 4) hTB hn (Nat.le_refl _) (by omega) rfl rfl rfl
    have hm1 : MutN (setL wb g (0 + k * 7 + 4) [.string text]) g 0 (cap' * 7) := MutN.setL _ _ _ hm
    exact EndV.tree (p := (ts.set k { n with text := text }, 0)) ((hx1.trans hx2).trans' (below_setL (Below.refl _ _) (by omega) _ _)) (hTB1.fin (by omega) (by rw [setL_size]; exact Nat.le_refl _) (by simp))
def listF (f : Int × Int) (ts : List Nd) (c : Cr) : List ByteArray × Int := if f.2 ≠ 0 then ([], f.2) else match ts[f.1.toNat]? with
  | none => ([], 0)
  | some n => if n.folder = false then ([], 4) else if mayN c n 4 then (n.names, 0) else ([], 3)
theorem list_at {ts : List Nd} {c : Cr} {k : Nat} {n : Nd} (hn : ts[k]? = some n) : listF ((k : Int), 0) ts c = if n.folder = false then ([], 4) else if mayN c n 4 then (n.names, 0) else ([], 3) := by
  rw [listF, if_neg (by simp)]; simp [hn]
def Lists (f : FuncId) (args : Array Value) (w : World) (p : List ByteArray × Int) : Prop :=
  Calls Tryz.prog f args w fun e w' => ∃ v, e = .returned v ∧ (∃ u, v = .tuple #[u, .int .i64 p.2] ∧ OwnS w.heap.size w' u p.1) ∧ Vc.Ext w w'
theorem EndV.list {H : List OE} {A w : World} {u : Value} {p : List ByteArray × Int} (hx : Vc.Ext w A) (h : OwnS w.heap.size A u p.1) : EndV H A (fun e w' => ∃ v, e = .returned v ∧ (∃ u, v = .tuple #[u, .int .i64 p.2] ∧ OwnS w.heap.size w' u p.1) ∧ Vc.Ext w w') (.tuple #[u, .int .i64 p.2]) :=
  EndV.mk fun w' hw' => ⟨_, rfl, ⟨u, rfl, h.ext hw'⟩, hx.trans hw'⟩
theorem BufS.ownS {lo B : Nat} {w : World} {v : Value} {l : List ByteArray} {g : Nat} (h : BufS lo w.heap.size w v l.length 1 (strs l) g) (hB : B ≤ lo) : OwnS B w v l := by
  obtain ⟨ad, cap, rfl, h1, h2, h3, h4, h5⟩ := id h
  exact ⟨ad, cap, g, rfl, h.row1, h.wr1, fun h0 => by obtain ⟨_, h6, h7, _⟩ := h5 (by omega); omega⟩
theorem chmod_cnt (ts : List Nd) (c : Cr) (s : ByteArray) (mode : Int) (hs : Sized ts) (h : cntNds ts ≤ 6291456) : cntNds (chmodF (findF ts c s) ts c mode).1 ≤ 100000000 := by
  rcases find_cases ts c s with ⟨f, he, h1, h4⟩ | ⟨k, n, he, hn, hk, hT, hc, hok⟩
  · rw [he, chmodF]
    split
    · simp [cntNds]
    · simp only; rw [if_pos (by omega)]; simp [cntNds]
  · rw [he]
    by_cases hm : inR mode 0 1023 = true
    · rw [chmod_at hm hn]
      split
      · simp [cntNds]
      · simp only
        have e := cntNds_set (n' := { n with mode := mode }) hn rfl
        omega
    · rw [chmodF, if_pos (by simpa using hm)]; simp [cntNds]
theorem give_cnt (ts : List Nd) (c : Cr) (s : ByteArray) (o g : Int) (hs : Sized ts) (h : cntNds ts ≤ 6291456) : cntNds (giveF (findF ts c s) ts c o g).1 ≤ 100000000 := by
  rcases find_cases ts c s with ⟨f, he, h1, h4⟩ | ⟨k, n, he, hn, hk, hT, hc, hok⟩
  · rw [he, giveF]
    split
    · simp [cntNds]
    · simp only; rw [if_pos (by omega)]; simp [cntNds]
  · rw [he]
    by_cases hm : (inR o 0 99 && inR g 0 7) = true
    · rw [give_at hm hn]
      split
      · simp [cntNds]
      · simp only
        have e := cntNds_set (n' := { n with owner := o, group := g }) hn rfl
        omega
    · rw [giveF, if_pos (by simpa using hm)]; simp [cntNds]
theorem write_cnt (ts : List Nd) (c : Cr) (s text : ByteArray) (hs : Sized ts) (h : cntNds ts ≤ 6291456) : cntNds (writeF (fileF (findF ts c s) ts c 2) ts text).1 ≤ 100000000 := by
  generalize fileF (findF ts c s) ts c 2 = f
  rw [writeF]
  split
  · simp [cntNds]
  · split
    · simp [cntNds]
    · split
      · simp [cntNds]
      · rename_i n hn
        simp only
        have e := cntNds_set (n' := { n with text := text }) hn rfl
        omega
end Go.Proofs.YtbnjjpgacemicaaGreatDoor
