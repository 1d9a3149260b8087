/-
  What the calculus knows of this program: its types, its functions.
  Conditions: none.
-/
import Derived.Test.YtlnlpholhnbifaaDoorVcU
namespace Go.Proofs.YtlnlpholhnbifaaDoor
open Go.RowKit Vc

def oneB (P : Program) (t : TypeId) : Bool := (match P.info? t with | some j => j.size == 1 | none => false) &&
  (match P.underlying t with | some (.struct _) => false | some (.array _ _) => false | some _ => true | none => false)
def tyB (P : Program) (t : TypeId) : Ty → Bool
  | .bool => match P.underlying t with | some .bool => true | _ => false
  | .int k => match P.underlying t with | some (.int k') => k == k' | _ => false
  | .str => match P.underlying t with | some .string => true | _ => false
  | .slice e => match P.underlying t with | some (.slice e') => e == e' | _ => false
  | .ptr => match P.underlying t with | some (.pointer _) => true | _ => false
  | .struct fs => match P.underlying t with | some (.struct F) => F.toList.map (·.offset) == fs && F.toList.all (fun f => oneB P f.type) | _ => false
  | .other => match P.underlying t with | some (.struct _) => false | some (.array _ _) => false | some _ => true | none => false
theorem ty_of {P : Program} {t : TypeId} {y : Ty} (h : tyB P t y = true) : TyOk P t y := by
  cases y <;> simp only [tyB] at h <;> simp only [TyOk]
  case bool => split at h <;> first | assumption | cases h
  case int k =>
    split at h
    · rename_i k' e; rw [e, eq_of_beq h]
    · cases h
  case str => split at h <;> first | assumption | cases h
  case slice k =>
    split at h
    · rename_i k' e; rw [e, eq_of_beq h]
    · cases h
  case ptr =>
    split at h
    · rename_i e he; exact ⟨e, he⟩
    · cases h
  case struct fs =>
    split at h
    · rename_i F hF
      simp only [Bool.and_eq_true] at h
      obtain ⟨h1, h2⟩ := h
      have h1 := eq_of_beq h1
      refine ⟨F, hF, by rw [← h1]; simp, fun i n hi => ?_⟩
      rw [nth_eq, ← h1, List.getElem?_map] at hi
      cases hf : F.toList[i]? with
      | none => rw [hf] at hi; cases hi
      | some f =>
        rw [hf] at hi
        simp only [Option.map_some, Option.some.injEq] at hi
        have h3 := List.all_eq_true.1 h2 f (List.mem_of_getElem? hf)
        simp only [oneB, Bool.and_eq_true] at h3
        obtain ⟨h4, h5⟩ := h3
        refine ⟨f, by simpa using hf, hi, ?_⟩
        split at h4
        · rename_i j hj
          refine ⟨j, hj, eq_of_beq h4, ?_⟩
          split at h5
          · cases h5
          · cases h5
          · rename_i d hn1 hn2 hd
            refine ⟨d, hd, ?_⟩
            split
            · exact (hn1 _ rfl).elim
            · exact (hn2 _ _ rfl).elim
            · trivial
          · cases h5
        · cases h4
    · cases h
  case other =>
    split at h
    · cases h
    · cases h
    · rename_i d hn1 hn2 hd
      refine ⟨d, hd, ?_⟩
      split
      · exact (hn1 _ rfl).elim
      · exact (hn2 _ _ rfl).elim
      · trivial
    · cases h

def tbl : List TI := [
  ⟨9, .str, 1, 16, .string ByteArray.empty⟩,
  ⟨5, .int .u8, 1, 1, .int .u8 0⟩,
  ⟨73, .int .u64, 1, 8, .int .u64 0⟩,
  ⟨25, .slice 9, 1, 24, .slice none 0 0⟩,
  ⟨30, .slice 5, 1, 24, .slice none 0 0⟩,
  ⟨49, .struct [0, 1], 2, 32, .agg #[.slice none 0 0, .int .i64 0]⟩,
  ⟨4, .bool, 1, 1, .bool false⟩,
  ⟨3, .int .i64, 1, 8, .int .i64 0⟩]
theorem tbl_ok : TOk Tryd.prog tbl := by
  repeat (first | exact ⟨⟨by kernel_rfl, ty_of (by kernel_rfl)⟩, trivial⟩ | refine ⟨⟨by kernel_rfl, ty_of (by kernel_rfl)⟩, ?_⟩)

def funs : List FuncId := [2, 3, 4, 5, 6, 7, 8, 9, 10, 11, 12, 13, 14, 15, 16, 17, 18, 19, 20, 21, 22, 23, 24, 25, 26, 27, 28, 29, 30, 31, 32, 33, 34, 35, 36, 37, 38, 39, 40, 41, 42, 43, 44, 45, 46, 47, 48, 49, 51, 54, 55, 57, 58, 60, 82]
theorem cx_ok : TOk Tryd.prog tbl ∧ funs.all (funB Tryd.prog) = true ∧ Tryd.prog.follows .mixedOrders = true := ⟨tbl_ok, by kernel_rfl, by kernel_rfl⟩
namespace Vc
theorem WpL.cons {n : Nat} {ops : List Oper} {o : Oper} {r : List Oper} {K : St → Prop} {st : St}
    (h : guardV ops st o.guard (fun st => stepV Tryd.prog ⟨tbl, funs, n⟩ st o.op fun s st' => putS n st' o.dst s fun st => WpL Tryd.prog ⟨tbl, funs, n⟩ ops r K st) (fun st => putS n st o.dst (.v undef) fun st => WpL Tryd.prog ⟨tbl, funs, n⟩ ops r K st)) :
    WpL Tryd.prog ⟨tbl, funs, n⟩ ops (o :: r) K st := WpL.cons_of (P := Tryd.prog) (C := ⟨tbl, funs, n⟩) cx_ok h
theorem WpD.cons {n : Nat} {ops : List Oper} {o : Oper} {r : List Oper} {K : St → Prop} {st : St}
    (h : guardV ops st o.guard (fun st => quietV Tryd.prog ⟨tbl, funs, n⟩ st o.op fun s => putS n st o.dst s fun st => WpD Tryd.prog ⟨tbl, funs, n⟩ ops r K st) (fun st => putS n st o.dst (.v undef) fun st => WpD Tryd.prog ⟨tbl, funs, n⟩ ops r K st)) :
    WpD Tryd.prog ⟨tbl, funs, n⟩ ops (o :: r) K st := WpD.cons_of (P := Tryd.prog) (C := ⟨tbl, funs, n⟩) cx_ok h
theorem WpC.draw {n : Nat} {kn : St → Prop} {kx : List (Nat × (St → Prop))} {kr : St → Prop} {st : St} {id : Nat} {l : List Oper} (hl : Region.lexB .any l.toArray = true)
    (h : WpD Tryd.prog ⟨tbl, funs, n⟩ l l kn st) : WpC Tryd.prog ⟨tbl, funs, n⟩ (.region id l.toArray true) kn kx kr st := WpC.draw_of (P := Tryd.prog) (C := ⟨tbl, funs, n⟩) cx_ok hl h
/-! Short names: a claim has a greatest size. -/
set_option linter.defProp false
def jC := @WpL.cons
def jN := @WpL.nil
def jS := @WpC.seq
def jR := @WpC.reg
def jT := @WpC.ret
def jB := @WpC.block
def jK := @WpC.skip
def jD := @WpD.cons
def jE := @WpD.nil
def jX := @WpC.exit
def jY := @WpC.cond
end Vc

end Go.Proofs.YtlnlpholhnbifaaDoor
