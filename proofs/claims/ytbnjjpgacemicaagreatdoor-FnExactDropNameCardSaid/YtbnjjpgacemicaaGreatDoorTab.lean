/-
  What the calculus knows of this program: its types, its functions.
  Conditions: none.
-/
import Derived.Test.YtbnjjpgacemicaaGreatDoorVcU
namespace Go.Proofs.YtbnjjpgacemicaaGreatDoor
open Go.RowKit Vc

def oneB (P : Program) (t : TypeId) : Bool := (match P.info? t with | some j => j.size == 1 | none => false) &&
  (match P.underlying t with | some (.struct _) => false | some (.array _ _) => false | some _ => true | none => false)
def tyB (P : Program) (t : TypeId) : Ty → Bool
  | .bool => match P.underlying t with | some .bool => true | _ => false
  | .int k => match P.underlying t with | some (.int k') => k == k' | _ => false
  | .str => match P.underlying t with | some .string => true | _ => false
  | .slice e => match P.underlying t with | some (.slice e') => e == e' | _ => false
  | .ptr => match P.underlying t with | some (.pointer _) => true | _ => false
  | .struct fs => match P.underlying t with | some (.struct F) => F.toList.map (·.offset) == fs && F.toList.all (fun f => oneB P f.type) | _ => false
  | .other => match P.underlying t with | some (.struct _) => false | some (.array _ _) => false | some _ => true | none => false
theorem ty_of {P : Program} {t : TypeId} {y : Ty} (h : tyB P t y = true) : TyOk P t y := by
  cases y <;> simp only [tyB] at h <;> simp only [TyOk]
  case bool => split at h <;> first | assumption | cases h
  case int k =>
    split at h
    · rename_i k' e; rw [e, eq_of_beq h]
    · cases h
  case str => split at h <;> first | assumption | cases h
  case slice k =>
    split at h
    · rename_i k' e; rw [e, eq_of_beq h]
    · cases h
  case ptr =>
    split at h
    · rename_i e he; exact ⟨e, he⟩
    · cases h
  case struct fs =>
    split at h
    · rename_i F hF
      simp only [Bool.and_eq_true] at h
      obtain ⟨h1, h2⟩ := h
      have h1 := eq_of_beq h1
      refine ⟨F, hF, by rw [← h1]; simp, fun i n hi => ?_⟩
      rw [nth_eq, ← h1, List.getElem?_map] at hi
      cases hf : F.toList[i]? with
      | none => rw [hf] at hi; cases hi
      | some f =>
        rw [hf] at hi
        simp only [Option.map_some, Option.some.injEq] at hi
        have h3 := List.all_eq_true.1 h2 f (List.mem_of_getElem? hf)
        simp only [oneB, Bool.and_eq_true] at h3
        obtain ⟨h4, h5⟩ := h3
        refine ⟨f, by simpa using hf, hi, ?_⟩
        split at h4
        · rename_i j hj
          refine ⟨j, hj, eq_of_beq h4, ?_⟩
          split at h5
          · cases h5
          · cases h5
          · rename_i d hn1 hn2 hd
            refine ⟨d, hd, ?_⟩
            split
            · exact (hn1 _ rfl).elim
            · exact (hn2 _ _ rfl).elim
            · trivial
          · cases h5
        · cases h4
    · cases h
  case other =>
    split at h
    · cases h
    · cases h
    · rename_i d hn1 hn2 hd
      refine ⟨d, hd, ?_⟩
      split
      · exact (hn1 _ rfl).elim
      · exact (hn2 _ _ rfl).elim
      · trivial
    · cases h

def tbl : List TI := [
  ⟨9, .str, 1, 16, .string ByteArray.empty⟩,
  ⟨5, .int .u8, 1, 1, .int .u8 0⟩,
  ⟨103, .int .u64, 1, 8, .int .u64 0⟩,
  ⟨43, .slice 3, 1, 24, .slice none 0 0⟩,
  ⟨42, .slice 9, 1, 24, .slice none 0 0⟩,
  ⟨90, .slice 5, 1, 24, .slice none 0 0⟩,
  ⟨52, .struct [0, 1, 2, 3, 4, 5, 6], 7, 96, .agg #[.bool false, .int .i64 0, .int .i64 0, .int .i64 0, .string ByteArray.empty, .slice none 0 0, .slice none 0 0]⟩,
  ⟨26, .slice 52, 1, 24, .slice none 0 0⟩,
  ⟨45, .struct [0, 1, 2, 3, 4, 5, 6], 7, 96, .agg #[.bool false, .int .i64 0, .int .i64 0, .int .i64 0, .string ByteArray.empty, .slice none 0 0, .slice none 0 0]⟩,
  ⟨22, .slice 45, 1, 24, .slice none 0 0⟩,
  ⟨30, .struct [0, 1, 2, 3], 4, 32, .agg #[.int .i64 0, .int .i64 0, .int .i64 0, .int .i64 0]⟩,
  ⟨24, .struct [0, 1, 2, 3], 4, 32, .agg #[.int .i64 0, .int .i64 0, .int .i64 0, .int .i64 0]⟩,
  ⟨4, .bool, 1, 1, .bool false⟩,
  ⟨3, .int .i64, 1, 8, .int .i64 0⟩]
theorem tbl_ok : TOk Tryz.prog tbl := by
  repeat (first | exact ⟨⟨by kernel_rfl, ty_of (by kernel_rfl)⟩, trivial⟩ | refine ⟨⟨by kernel_rfl, ty_of (by kernel_rfl)⟩, ?_⟩)

def funs : List FuncId := [2, 3, 4, 5, 6, 7, 8, 9, 10, 11, 12, 13, 14, 15, 16, 17, 18, 19, 20, 21, 22, 23, 24, 25, 26, 27, 28, 29, 30, 31, 32, 33, 34, 35, 36, 37, 38, 39, 40, 41, 42, 43, 44, 45, 46, 47, 48, 49, 50, 51, 52, 53, 54, 55, 56, 57, 58, 59, 60, 61, 62, 63, 64, 65, 66, 67, 68, 69, 70, 71, 72, 73, 74, 75, 76, 77, 78, 79, 80, 81, 82, 83, 84, 85, 86, 87, 88, 89, 90, 91, 92, 93, 94, 95, 96, 97, 98, 99, 100, 101, 103, 105, 106, 107, 108, 109, 110, 111, 112, 113, 114, 115, 116, 117, 118, 119, 120, 121, 122, 123, 124, 125, 126, 127, 128, 129, 130, 131, 133, 136, 137, 139, 140, 142, 164]
theorem cx_ok : TOk Tryz.prog tbl ∧ funs.all (funB Tryz.prog) = true ∧ Tryz.prog.follows .mixedOrders = true := ⟨tbl_ok, by kernel_rfl, by kernel_rfl⟩
namespace Vc
theorem WpL.cons {n : Nat} {ops : List Oper} {o : Oper} {r : List Oper} {K : St → Prop} {st : St}
    (h : guardV ops st o.guard (fun st => stepV Tryz.prog ⟨tbl, funs, n⟩ st o.op fun s st' => putS n st' o.dst s fun st => WpL Tryz.prog ⟨tbl, funs, n⟩ ops r K st) (fun st => putS n st o.dst (.v undef) fun st => WpL Tryz.prog ⟨tbl, funs, n⟩ ops r K st)) :
    WpL Tryz.prog ⟨tbl, funs, n⟩ ops (o :: r) K st := WpL.cons_of (P := Tryz.prog) (C := ⟨tbl, funs, n⟩) cx_ok h
theorem WpD.cons {n : Nat} {ops : List Oper} {o : Oper} {r : List Oper} {K : St → Prop} {st : St}
    (h : guardV ops st o.guard (fun st => quietV Tryz.prog ⟨tbl, funs, n⟩ st o.op fun s => putS n st o.dst s fun st => WpD Tryz.prog ⟨tbl, funs, n⟩ ops r K st) (fun st => putS n st o.dst (.v undef) fun st => WpD Tryz.prog ⟨tbl, funs, n⟩ ops r K st)) :
    WpD Tryz.prog ⟨tbl, funs, n⟩ ops (o :: r) K st := WpD.cons_of (P := Tryz.prog) (C := ⟨tbl, funs, n⟩) cx_ok h
theorem WpC.draw {n : Nat} {kn : St → Prop} {kx : List (Nat × (St → Prop))} {kr : St → Prop} {st : St} {id : Nat} {l : List Oper} (hl : Region.lexB .any l.toArray = true)
    (h : WpD Tryz.prog ⟨tbl, funs, n⟩ l l kn st) : WpC Tryz.prog ⟨tbl, funs, n⟩ (.region id l.toArray true) kn kx kr st := WpC.draw_of (P := Tryz.prog) (C := ⟨tbl, funs, n⟩) cx_ok hl h
/-! Short names: a claim has a greatest size. -/
set_option linter.defProp false
def jC := @WpL.cons
def jN := @WpL.nil
def jS := @WpC.seq
def jR := @WpC.reg
def jT := @WpC.ret
def jB := @WpC.block
def jK := @WpC.skip
def jD := @WpD.cons
def jE := @WpD.nil
def jX := @WpC.exit
def jY := @WpC.cond
end Vc

end Go.Proofs.YtbnjjpgacemicaaGreatDoor
