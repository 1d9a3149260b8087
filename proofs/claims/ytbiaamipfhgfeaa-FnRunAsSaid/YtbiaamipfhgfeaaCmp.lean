/-
  Credentials compared with == and != in the calculus of conditions.
  Conditions: none.
-/
import Derived.Test.YtbiaamipfhgfeaaTabE
import Derived.Test.YtbiaamipfhgfeaaVcP
import Derived.Test.YtbiaamipfhgfeaaPlain
import Derived.Laws.StructEq
import Derived.Shelf.SlicesE.Kit
namespace Go.Proofs.Ytbiaamipfhgfeaa
open Go.RowKit Vc
set_option linter.unusedVariables false

def Cr.same (c d : Cr) : Bool := (c.real == d.real) && ((c.acts == d.acts) && ((c.saved == d.saved) && (c.groups == d.groups)))
theorem Cr.same_self (c : Cr) : c.same c = true := by simp [Cr.same]
theorem Cr.same_iff {c d : Cr} : c.same d = true ↔ c = d := by
  constructor
  · intro h
    simp only [Cr.same, Bool.and_eq_true, beq_iff_eq] at h
    cases c; cases d
    simp only at h
    obtain ⟨rfl, rfl, rfl, rfl⟩ := h
    rfl
  · rintro rfl; exact c.same_self
theorem cred_eql : EqlAt Try.prog 34 Cr.v Cr.same := by
  refine ⟨fun x y w => ?_, GuardAt.agg (fun x : Cr => #[.int .i64 x.real, .int .i64 x.acts, .int .i64 x.saved, .int .i64 x.groups]) (by kernel_rfl)⟩
  have u3 := Try.underlying3
  have a3 := Try.isAgg3
  have z3 := Try.sizeOf3
  have hS : Try.prog.underlying 34 = some (.struct (Try.prog.fieldsOf 34)) := by kernel_rfl
  have hp : Try.prog.stoodInHeld 34 = false := by kernel_rfl
  simp only [Cr.v]
  rw [run_eql_struct, show (10000 : Nat) = 9999 + 1 from rfl, run_equalIn_agg w 9999 34 _ _ hS hp]
  simp only [Program.fieldsOf, Try.underlying34]
  go_simp
  by_cases h1 : x.real = y.real <;> by_cases h2 : x.acts = y.acts <;> by_cases h3 : x.saved = y.saved <;> by_cases h4 : x.groups = y.groups <;> simp [Cr.same, h1, h2, h3, h4]
theorem cred_neq (c d : Cr) (w : World) : (binOp .neq 34 c.v d.v).run Try.prog w = .ok (.bool (!c.same d)) w := by
  have h := cred_eql.1 c d w
  have e1 : binOp .eql 34 c.v d.v = (do pure (.bool (← Op.equal 34 c.v d.v)) : Sem Value) := rfl
  have e2 : binOp .neq 34 c.v d.v = (do pure (.bool (!(← Op.equal 34 c.v d.v))) : Sem Value) := rfl
  rw [e1, Sem.run_bind] at h
  rw [e2, Sem.run_bind]
  cases hr : (Op.equal 34 c.v d.v).run Try.prog w with
  | ok x w1 =>
    rw [hr] at h
    simp only [Result.andThen_ok, Sem.run_pure, Result.ok.injEq, Value.bool.injEq] at h ⊢
    rw [h.1, h.2]; exact ⟨rfl, rfl⟩
  | halt x w1 => rw [hr] at h; cases h
namespace Vc
section
variable {n : Nat} {ops r : List Oper} {K : St → Prop} {st : St}
theorem guardV_mono {g : Option (Nat × Bool)} {yes yes' no : St → Prop} (h : guardV ops st g yes no) (k : ∀ st, yes st → yes' st) : guardV ops st g yes' no := by
  unfold guardV at *
  cases g with
  | none => exact k _ h
  | some p =>
    obtain ⟨j, b⟩ := p
    obtain ⟨E, H, A⟩ := st
    simp only at h ⊢
    generalize nth ops j = no at h ⊢
    cases no with
    | none => exact h
    | some o =>
      simp only at h ⊢
      generalize o.dst = od at h ⊢
      cases od with
      | none => exact h
      | some d =>
        simp only at h ⊢
        generalize look E d = s at h ⊢
        cases s with
        | none => exact h
        | some s =>
          cases s with
          | own i o => exact h
          | v v =>
            cases v with
            | bool x =>
              simp only at h ⊢
              rcases h.out with ⟨rfl, h⟩ | ⟨rfl, h⟩
              · refine Br.yes rfl ?_
                cases b
                · exact h
                · exact k _ h
              · refine Br.no rfl ?_
                cases b
                · exact k _ h
                · exact h
            | _ => exact h
theorem WpL.raw_of {P : Program} {C : Cx} {o : Oper} (h : guardV ops st o.guard (fun st => ∃ v, (∀ a w, Sat C.n st a w → (execOp a.eval o).run P w = .ok (.value v) w) ∧ putS C.n st o.dst (.v v) fun st => WpL P C ops r K st) (fun st => putS C.n st o.dst (.v undef) fun st => WpL P C ops r K st)) :
    WpL P C ops (o :: r) K st := by
  unfold WpL at *
  intro Q hQ a w hS
  obtain ⟨st1, hS1, _, _, ⟨hw, v, hr, h⟩ | ⟨hw, h⟩⟩ := guardV_ok hS h
  · unfold wpList
    rw [if_pos hw]
    refine .inl ?_
    unfold Oper.wp
    rw [hr a w hS1]
    obtain ⟨st2, hS2, hK2⟩ := putS_ok hS1 (s := .v v) trivial h
    exact hK2 Q hQ _ _ hS2
  · unfold wpList
    rw [hw]
    simp only [Bool.false_eq_true, if_false]
    obtain ⟨st2, hS2, hK2⟩ := putS_ok hS1 (s := .v undef) trivial h
    exact hK2 Q hQ _ _ hS2
theorem WpD.raw_of {P : Program} {C : Cx} {o : Oper} (h : guardV ops st o.guard (fun st => ∃ v, (∀ a w, Sat C.n st a w → (execOp a.eval o).run P w = .ok (.value v) w) ∧ putS C.n st o.dst (.v v) fun st => WpD P C ops r K st) (fun st => putS C.n st o.dst (.v undef) fun st => WpD P C ops r K st)) :
    WpD P C ops (o :: r) K st := by
  unfold WpD at *
  intro D Q hQ a w hS hD
  have hat : ∀ {st' : St}, st'.own = st.own → st'.anc = st.anc → ∀ w, At st' w ↔ D w := fun e1 e2 w => by
    rw [← hD w]; unfold At; rw [e1, e2]
  obtain ⟨st1, hS1, e1, e2, ⟨hw, v, hr, h⟩ | ⟨hw, h⟩⟩ := guardV_ok hS h
  · unfold wpQuiet
    rw [if_pos hw]
    obtain ⟨st2, hS2, e3, e4, hK2⟩ := putS_same hS1 (s := .v v) trivial h
    refine ⟨_, fun w' hw' => ?_, hK2 D Q hQ _ _ hS2 (hat (e3.trans e1) (e4.trans e2))⟩
    have hw1 := (hat e1 e2 w').2 hw'
    unfold Oper.quietAt
    rw [hr a w' ⟨hS1.1, hS1.2.1, hS1.2.2.1, hw1.1, hw1.2⟩]
    exact ⟨rfl, rfl⟩
  · unfold wpQuiet
    rw [hw]
    simp only [Bool.false_eq_true, if_false]
    obtain ⟨st2, hS2, e3, e4, hK2⟩ := putS_same hS1 (s := .v undef) trivial h
    exact hK2 D Q hQ _ _ hS2 (hat (e3.trans e1) (e4.trans e2))
theorem WpL.eqC {dst : Option Tmp} {x y : Operand} {ty2 ty : TypeId} {pos : String} {after : Array Edge} {g : Option (Nat × Bool)}
    (h : guardV ops st g (fun st => ∃ c d : Cr, ev st x = some (.v c.v) ∧ ev st y = some (.v d.v) ∧ putS n st dst (.v (.bool (c.same d))) fun st => WpL Try.prog ⟨tbl, funs, n⟩ ops r K st) (fun st => putS n st dst (.v undef) fun st => WpL Try.prog ⟨tbl, funs, n⟩ ops r K st)) :
    WpL Try.prog ⟨tbl, funs, n⟩ ops ({ dst := dst, op := .binOp .eql 34 x y ty2, type := ty, pos := pos, after := after, guard := g } :: r) K st := by
  refine WpL.raw_of (C := ⟨tbl, funs, n⟩) (guardV_mono h (fun st h => ?_))
  obtain ⟨c, d, hc, hd, h⟩ := h
  refine ⟨_, fun a w hS => ?_, h⟩
  rw [execOp]
  simp only [ev_v hS hc, ev_v hS hd, Sem.run_bind, cred_eql.2 .eql x y c d w, Result.andThen_ok, cred_eql.1 c d w, Sem.run_pure]
theorem WpL.neC {dst : Option Tmp} {x y : Operand} {ty2 ty : TypeId} {pos : String} {after : Array Edge} {g : Option (Nat × Bool)}
    (h : guardV ops st g (fun st => ∃ c d : Cr, ev st x = some (.v c.v) ∧ ev st y = some (.v d.v) ∧ putS n st dst (.v (.bool (!c.same d))) fun st => WpL Try.prog ⟨tbl, funs, n⟩ ops r K st) (fun st => putS n st dst (.v undef) fun st => WpL Try.prog ⟨tbl, funs, n⟩ ops r K st)) :
    WpL Try.prog ⟨tbl, funs, n⟩ ops ({ dst := dst, op := .binOp .neq 34 x y ty2, type := ty, pos := pos, after := after, guard := g } :: r) K st := by
  refine WpL.raw_of (C := ⟨tbl, funs, n⟩) (guardV_mono h (fun st h => ?_))
  obtain ⟨c, d, hc, hd, h⟩ := h
  refine ⟨_, fun a w hS => ?_, h⟩
  rw [execOp]
  simp only [ev_v hS hc, ev_v hS hd, Sem.run_bind, cred_eql.2 .neq x y c d w, Result.andThen_ok, cred_neq c d w, Sem.run_pure]
theorem WpD.neC {dst : Option Tmp} {x y : Operand} {ty2 ty : TypeId} {pos : String} {after : Array Edge} {g : Option (Nat × Bool)}
    (h : guardV ops st g (fun st => ∃ c d : Cr, ev st x = some (.v c.v) ∧ ev st y = some (.v d.v) ∧ putS n st dst (.v (.bool (!c.same d))) fun st => WpD Try.prog ⟨tbl, funs, n⟩ ops r K st) (fun st => putS n st dst (.v undef) fun st => WpD Try.prog ⟨tbl, funs, n⟩ ops r K st)) :
    WpD Try.prog ⟨tbl, funs, n⟩ ops ({ dst := dst, op := .binOp .neq 34 x y ty2, type := ty, pos := pos, after := after, guard := g } :: r) K st := by
  refine WpD.raw_of (C := ⟨tbl, funs, n⟩) (guardV_mono h (fun st h => ?_))
  obtain ⟨c, d, hc, hd, h⟩ := h
  refine ⟨_, fun a w hS => ?_, h⟩
  rw [execOp]
  simp only [ev_v hS hc, ev_v hS hd, Sem.run_bind, cred_eql.2 .neq x y c d w, Result.andThen_ok, cred_neq c d w, Sem.run_pure]
end
end Vc
end Go.Proofs.Ytbiaamipfhgfeaa
