/-
  Contracts: NewTree; the program's and the reference's.
  Conditions: none.
-/
import Derived.Test.YtlnlpholhnbifaaTreeB
import Derived.Test.YtlnlpholhnbifaaNames
namespace Go.Proofs.Ytlnlpholhnbifaa
open Go.RowKit Vc
set_option linter.unusedVariables false
set_option maxHeartbeats 1000000
attribute [local irreducible] WpC WpL WpD WpE WpB CallV QCallV Made AppV Ld LdN Ix EndV I64 MutN Mut CellsAt

def newT (mode : Int) : List Nd := if inR mode 0 1023 then [⟨true, 0, 0, mode, ⟨#[]⟩, [], []⟩] else []
theorem TreeB.nil0 (lo hi : Nat) (w : World) : TreeB lo hi w (.slice none 0 0) [] :=
  ⟨none, 0, 0, fun _ _ => 0, fun _ _ => .slice none 0 0, rfl, Nat.le_refl _, by omega, fun p e => (by cases e), fun h => absurd h (by omega), fun i n b h => by simp at h, fun i b j b' h => absurd h (by simp), fun i b h => absurd h (by simp)⟩
theorem TreeB.empty0 (lo hi : Nat) (w : World) (b o : Nat) : TreeB lo hi w (.slice (some ⟨b, o, none⟩) 0 0) [] :=
  ⟨_, 0, 0, fun _ _ => 0, fun _ _ => .slice none 0 0, rfl, Nat.le_refl _, by omega, fun p e => by cases e; exact ⟨_, _, rfl⟩, fun h => absurd h (by omega), fun i n b h => by simp at h, fun i b j b' h => absurd h (by simp), fun i b h => absurd h (by simp)⟩
theorem TreeB.one {lo g : Nat} {w : World} {n : Nd} (hg : lo ≤ g) (hw : g < w.heap.size) (hm : MutN w g 0 7) (hc : CellsAt w g 0 (n.cells (.slice none 0 0) (.slice none 0 0))) (e1 : n.names = []) (e2 : n.kids = []) :
    TreeB lo w.heap.size w (.slice (some ⟨g, 0, none⟩) 1 1) [n] :=
  ⟨_, 1, g, fun _ _ => 0, fun _ _ => .slice none 0 0, rfl, Nat.le_refl _, by omega, fun p e => by cases e; exact ⟨_, _, rfl⟩, fun _ => ⟨rfl, hg, hw, hm, fun i m hi => by
    cases i with
    | zero => simp at hi; subst hi; exact hc
    | succ i => simp at hi⟩, fun i m b hi => by
    have : m = n := by
      cases i with
      | zero => simpa using hi.symm
      | succ i => simp at hi
    subst this
    cases b <;> simp [contN, cont, e1, e2] <;> exact BufS.nil _ _ _ _ _, fun i b j b' _ _ _ h => absurd h (by simp [capV]), fun i b _ h => absurd h (by simp [capV])⟩
def News (f : FuncId) (args : Array Value) (w : World) (p : List Nd) : Prop :=
  Calls Try.prog f args w fun e w' => ∃ v, e = .returned v ∧ TreeB w.heap.size w'.heap.size w' v p ∧ Vc.Ext w w'
theorem iNewTree_vc (mode : Int) (w : World) : News 24 #[.int .i64 mode] w (newT mode) := by
  unfold News newT
  refine calls_of cx_ok Try.func24 Try.ntmps24 Try.results24 rfl rfl ?_
  repeat (first | refine jC ?_ | refine jN ?_ | refine jS ?_ | refine jR ?_ | refine jT ?_ | refine jB ?_ | refine jX rfl ?_ | refine jY rfl ?_ | refine jK ?_ | refine jD ?_ | refine jE ?_)
  refine CallV.val (fun w' _ _ => (isMode_any mode w').of_same) ?_
  repeat (first | refine jC ?_ | refine jN ?_ | refine jS ?_ | refine jR ?_ | refine jT ?_ | refine jB ?_ | refine jX rfl ?_ | refine jY rfl ?_ | refine jK ?_ | refine jD ?_ | refine jE ?_)
  refine Br.intro (fun h => ?_) (fun h => ?_)
  · rw [if_neg (by simpa using h)]
    repeat (first | refine jC ?_ | refine jN ?_ | refine jS ?_ | refine jR ?_ | refine jT ?_ | refine jB ?_ | refine jX rfl ?_ | refine jY rfl ?_ | refine jK ?_ | refine jD ?_ | refine jE ?_)
    exact EndV.mk fun w' hw' => ⟨_, rfl, TreeB.nil0 _ _ _, hw'⟩
  rw [if_pos (by simpa using h)]
  repeat (first | refine jC ?_ | refine jN ?_ | refine jS ?_ | refine jR ?_ | refine jT ?_ | refine jB ?_ | refine jX rfl ?_ | refine jY rfl ?_ | refine jK ?_ | refine jD ?_ | refine jE ?_)
  refine Made.mk fun g w1 hx1 hg1 hg2 hg3 _ => ?_
  repeat (first | refine jC ?_ | refine jN ?_ | refine jS ?_ | refine jR ?_ | refine jT ?_ | refine jB ?_ | refine jX rfl ?_ | refine jY rfl ?_ | refine jK ?_ | refine jD ?_ | refine jE ?_)
  have hc : CellsAt w1 g 0 ((⟨true, 0, 0, mode, ⟨#[]⟩, [], []⟩ : Nd).cells (.slice none 0 0) (.slice none 0 0)) := CellsAt.of_block hg3 fun i v hi => by rw [Nat.zero_add]; exact hi
  exact EndV.mk fun w' hw' => ⟨_, rfl, (TreeB.one hg1 hg2 (MutN.of_block hg3 (by simp)) hc rfl rfl).ext hw' hw'.size, hx1.trans hw'⟩
theorem sNewTree_vc (mode : Int) (w : World) : News 26 #[.int .i64 mode] w (newT mode) := by
  unfold News newT
  refine calls_of cx_ok Try.func26 Try.ntmps26 Try.results26 rfl rfl ?_
  repeat (first | refine jC ?_ | refine jN ?_ | refine jS ?_ | refine jR ?_ | refine jT ?_ | refine jB ?_ | refine jX rfl ?_ | refine jY rfl ?_ | refine jK ?_ | refine jD ?_ | refine jE ?_)
  refine CallV.val (fun w' _ _ => (l1In_any mode 0 1023 w').of_same) ?_
  repeat (first | refine jC ?_ | refine jN ?_ | refine jS ?_ | refine jR ?_ | refine jT ?_ | refine jB ?_ | refine jX rfl ?_ | refine jY rfl ?_ | refine jK ?_ | refine jD ?_ | refine jE ?_)
  refine Br.intro (fun h => ?_) (fun h => ?_)
  · rw [if_neg (by simpa using h)]
    repeat (first | refine jC ?_ | refine jN ?_ | refine jS ?_ | refine jR ?_ | refine jT ?_ | refine jB ?_ | refine jX rfl ?_ | refine jY rfl ?_ | refine jK ?_ | refine jD ?_ | refine jE ?_)
    refine Made.mk fun g w1 hx1 hg1 hg2 hg3 _ => ?_
    repeat (first | refine jC ?_ | refine jN ?_ | refine jS ?_ | refine jR ?_ | refine jT ?_ | refine jB ?_ | refine jX rfl ?_ | refine jY rfl ?_ | refine jK ?_ | refine jD ?_ | refine jE ?_)
    exact EndV.mk fun w' hw' => ⟨_, rfl, TreeB.empty0 _ _ _ _ _, hx1.trans hw'⟩
  rw [if_pos (by simpa using h)]
  repeat (first | refine jC ?_ | refine jN ?_ | refine jS ?_ | refine jR ?_ | refine jT ?_ | refine jB ?_ | refine jX rfl ?_ | refine jY rfl ?_ | refine jK ?_ | refine jD ?_ | refine jE ?_)
  refine Made.mk fun g w1 hx1 hg1 hg2 hg3 _ => ?_
  repeat (first | refine jC ?_ | refine jN ?_ | refine jS ?_ | refine jR ?_ | refine jT ?_ | refine jB ?_ | refine jX rfl ?_ | refine jY rfl ?_ | refine jK ?_ | refine jD ?_ | refine jE ?_)
  have hc : CellsAt w1 g 0 ((⟨true, 0, 0, mode, ⟨#[]⟩, [], []⟩ : Nd).cells (.slice none 0 0) (.slice none 0 0)) := CellsAt.of_block hg3 fun i v hi => by rw [Nat.zero_add]; exact hi
  exact EndV.mk fun w' hw' => ⟨_, rfl, (TreeB.one hg1 hg2 (MutN.of_block hg3 (by simp)) hc rfl rfl).ext hw' hw'.size, hx1.trans hw'⟩
end Go.Proofs.Ytlnlpholhnbifaa
