/-
  The conditions of an operation suffice.
  Conditions: none.
-/
import Derived.Test.YtbnjjpgacemicaaGreatDoorVcR
import Derived.Laws.BytesString
import Derived.Laws.IdiomStrings
import Derived.Laws.MakeOwn
namespace Go.Proofs.YtbnjjpgacemicaaGreatDoor.Vc
open Go.RowKit

section
variable {P : Program} {C : Cx} {st : St} {a : Act} {w : World} {next : Act → World → Prop} {Q : Exit → Act → World → Prop}

theorem memN_all {F : List FuncId} {p : FuncId → Bool} (h : F.all p = true) {f : FuncId} (hf : memN F f = true) : p f = true := by
  induction F with
  | nil => cases hf
  | cons x r ih =>
    simp only [List.all_cons, Bool.and_eq_true] at h
    unfold memN at hf
    split at hf
    · rename_i e; rw [← Nat.eq_of_beq_eq_true e]; exact h.1
    · exact ih h.2 hf
theorem catK_eq {l m : List Value} {K : List Value → Prop} : catK l m K = K (l ++ m) := by
  induction l generalizing K with
  | nil => rfl
  | cons x r ih => rw [catK, ih]; rfl

/-- A value, in the very world. -/
theorem of_opV (hC : CxOk P C) {o : Oper} {K : SV → St → Prop} (h : opV C.T st o.op fun s => K s st) (hS : Sat C.n st a w)
    (hn : ∀ s st' w', Sat C.n st' a w' → s.ok st'.own → K s st' → next (a.put o.dst (den st'.own s)) w') : o.wp P a w next Q := by
  obtain ⟨s, h1, h2⟩ := opV_ok hC.1 h
  obtain ⟨h3, h4⟩ := h2 _ a w hS
  unfold Oper.wp
  rw [h4]
  exact hn s st w hS h3 h1

theorem run_callFunc {f : FuncId} (h : funB P f = true) (args : Array Value) (w : World) : (callFunc f args).run P w = .ok (.enter f args) w := by
  unfold funB at h
  split at h
  · rename_i fn hf
    simp only [Bool.and_eq_true, Bool.not_eq_true'] at h
    have h2 : fn.body.isNone = false := by
      cases hb : fn.body with
      | none => rw [hb] at h; exact absurd h.2 (by simp)
      | some b => rfl
    simp only [callFunc, Sem.run_bind, run_program, Result.andThen_ok, hf, h.1, h2]
    rfl
  · cases h
theorem calleeV_ok (hC : CxOk P C) {cl : Call} {K : FuncId → Array Value → Prop} (h : calleeV C.F st cl K) :
    ∃ f args, K f args ∧ ∀ (n : Nat) a w (type : TypeId), Sat n st a w → ((do let d ← resolve a.eval cl type; invoke d.target d.args : Sem Next)).run P w = .ok (.enter f args) w := by
  unfold calleeV at h
  split at h
  · rename_i g hg
    split at h
    · rename_i f fi cap hev
      split at h
      · rename_i hm
        obtain ⟨l, h1, _, h2⟩ := evL_ok h
        rw [catK_eq, catK_eq] at h1
        refine ⟨f, _, h1, fun n a w type hS => ?_⟩
        have hfun := memN_all hC.2.1 hm
        have e1 : cl.args.map a.eval = l.toArray := by
          apply Array.ext'
          rw [Array.toList_map, h2 n a w hS]
        have e2 : (fi ++ l.toArray ++ cap) = (fi.toList ++ (l ++ cap.toList)).toArray := by
          apply Array.ext'
          simp
        have hr : (resolve a.eval cl type).run P w = .ok { target := .fn (.func f) cap, args := fi ++ l.toArray } w := by
          simp only [resolve, hg, e1, ev_v hS hev, Deferred.ofValue]
          rfl
        rw [Sem.run_bind, hr, Result.andThen_ok]
        simp only [invoke]
        rw [run_callFunc hfun, e2]
      · exact h.elim
    · exact h.elim
  · exact h.elim

theorem cells_one (u : Value) (hv : ∀ cs, u = .agg cs → False) : u.cells = #[u] := by cases u <;> first | rfl | exact (hv _ rfl).elim
theorem flatK_ok {n : Nat} {vs : List Value} {K : List Value → Prop} (h : flatK n vs K) : K (vs.flatMap fun v => v.cells.toList) ∧ ∀ v, v ∈ vs → v.cells.size = n := by
  induction vs generalizing K with
  | nil => exact ⟨h, fun v hv => absurd hv (by simp)⟩
  | cons v r ih =>
    unfold flatK at h
    split at h
    · rename_i cs
      split at h
      · rename_i hb
        obtain ⟨h1, h2⟩ := ih h
        rw [catK_eq] at h1
        refine ⟨h1, fun x hx => ?_⟩
        rcases List.mem_cons.1 hx with rfl | hx
        · have := Nat.eq_of_beq_eq_true hb
          rw [len1_eq] at this
          simpa [Value.cells] using this
        · exact h2 x hx
      · exact h.elim
    · rename_i hv
      split at h
      · obtain ⟨h1, h2⟩ := ih h
        have hc := cells_one _ hv
        refine ⟨by rw [List.flatMap_cons, hc]; exact h1, fun x hx => ?_⟩
        rcases List.mem_cons.1 hx with rfl | hx
        · rw [hc]; rfl
        · exact h2 x hx
      · exact h.elim
theorem isRange_ok {l : List Nat} {k : Nat} (h : isRange k l = true) : l = List.range' k l.length := by
  induction l generalizing k with
  | nil => rfl
  | cons i r ih =>
    unfold isRange at h
    split at h
    · rename_i e
      have := Nat.eq_of_beq_eq_true e
      subst this
      rw [List.length_cons, List.range'_succ, ← ih h]
    · cases h
theorem fill_range {s : Nat} (vs : List Value) (hs : ∀ v, v ∈ vs → v.cells.size = s) : ∀ (k : Nat) (pre suf : List Value), pre.length = k * s → suf.length = vs.length * s →
    Instr.fill (fun i => some (i * s, s)) (pre ++ suf).toArray ((List.range' k vs.length).zip vs) = some (pre ++ vs.flatMap fun v => v.cells.toList).toArray := by
  induction vs with
  | nil => intro k pre suf hp hl; simp at hl; subst hl; simp [Instr.fill]
  | cons v r ih =>
    intro k pre suf hp hl
    have hv := hs v List.mem_cons_self
    have hl' : suf.length = r.length * s + s := by rw [hl, List.length_cons, Nat.succ_mul]
    simp only [List.length_cons, List.range'_succ, List.zip_cons_cons, Instr.fill]
    rw [if_neg (by simp [hv, hp]; omega)]
    have hset : (v.cells.zipIdx.foldl (fun cs (x : Value × Nat) => cs.setIfInBounds (k * s + x.2) x.1) (pre ++ suf).toArray) = ((pre ++ v.cells.toList) ++ suf.drop s).toArray := by
      have key : ∀ (l : List Value) (j : Nat) (p q : List Value), p.length = k * s + j → l.length ≤ q.length → (l.zipIdx j).foldl (fun (cs : Array Value) (x : Value × Nat) => cs.setIfInBounds (k * s + x.2) x.1) (p ++ q).toArray = (p ++ l ++ q.drop l.length).toArray := by
        intro l
        induction l with
        | nil => intro j p q _ _; simp
        | cons x t iht =>
          intro j p q hpj hlq
          cases q with
          | nil => simp at hlq
          | cons y q =>
            simp only [List.zipIdx_cons, List.foldl_cons]
            have e : ((p ++ y :: q).toArray.setIfInBounds (k * s + j) x) = ((p ++ [x]) ++ q).toArray := by
              apply Array.ext'
              rw [← hpj]
              simp
            rw [e, iht (j + 1) (p ++ [x]) q (by simp; omega) (by simpa using hlq)]
            simp
      have := key v.cells.toList 0 pre suf (by omega) (by rw [Array.length_toList, hv]; omega)
      rw [← Array.foldl_toList]
      simp only [Array.toList_zipIdx]
      rw [this, Array.length_toList, hv]
    rw [hset, ih (fun x hx => hs x (List.mem_cons_of_mem _ hx)) (k + 1) (pre ++ v.cells.toList) (suf.drop s) (by simp [hp, hv, Nat.succ_mul]) (by simp [hl'])]
    simp
end
end Go.Proofs.YtbnjjpgacemicaaGreatDoor.Vc
