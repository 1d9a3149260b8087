/-
  The steps of regions that draw their order and do more than read, for this program.
  Conditions: none.
-/
import Derived.Test.YtbnjjpgacemicaaGreatDoorVcE
import Derived.Test.YtbnjjpgacemicaaGreatDoorMem
namespace Go.Proofs.YtbnjjpgacemicaaGreatDoor.Vc
open Go.RowKit
section
variable {n : Nat} {ops : List Oper} {kd : Nat → Kd} {K : St → Prop}
theorem WpE.rd {i : Nat} {o : Oper} {t : Tr} {A0 : World} {E : List (Nat × SV)} {H : List OE} {A : World} (hi : nth ops i = some o) (hk : kd i = .rd)
    (h : guardV ops ⟨E, H, A⟩ o.guard (fun st => match st with | ⟨E', H', A'⟩ => opV tbl ⟨E', H', A0⟩ o.op fun s => putS n ⟨E', H', A'⟩ o.dst s fun st => WpE Tryz.prog ⟨tbl, funs, n⟩ ops kd t (Ext A0) K st) (fun st => putS n st o.dst (.v undef) fun st => WpE Tryz.prog ⟨tbl, funs, n⟩ ops kd t (Ext A0) K st)) :
    WpE Tryz.prog ⟨tbl, funs, n⟩ ops kd (.st i t) (Ext A0) K ⟨E, H, A⟩ := WpE.rd_of (P := Tryz.prog) (C := ⟨tbl, funs, n⟩) cx_ok hi hk h
theorem WpE.rdD {i : Nat} {o : Oper} {t : Tr} {D : World → Prop} {E : List (Nat × SV)} {H : List OE} {A : World} (hi : nth ops i = some o) (hk : kd i = .rd)
    (h : guardV ops ⟨E, H, A⟩ o.guard (fun st => match st with | ⟨E', H', A'⟩ => ∃ s, (∀ w, D w → opV tbl ⟨E', H', w⟩ o.op fun s' => s' = s) ∧ putS n ⟨E', H', A'⟩ o.dst s fun st => WpE Tryz.prog ⟨tbl, funs, n⟩ ops kd t D K st) (fun st => putS n st o.dst (.v undef) fun st => WpE Tryz.prog ⟨tbl, funs, n⟩ ops kd t D K st)) :
    WpE Tryz.prog ⟨tbl, funs, n⟩ ops kd (.st i t) D K ⟨E, H, A⟩ := WpE.rdD_of (P := Tryz.prog) (C := ⟨tbl, funs, n⟩) cx_ok hi hk h
theorem WpE.ef {i : Nat} {o : Oper} {t : Tr} {D : World → Prop} {E : List (Nat × SV)} {H : List OE} {A : World} (hi : nth ops i = some o) (hk : kd i = .ef)
    (h : guardV ops ⟨E, H, A⟩ o.guard (fun st1 => stepV Tryz.prog ⟨tbl, funs, n⟩ st1 o.op fun s st' => putS n st' o.dst s fun st2 => Keep H D st2 ∧ WpE Tryz.prog ⟨tbl, funs, n⟩ ops kd t D K st2) (fun st => putS n st o.dst (.v undef) fun st => WpE Tryz.prog ⟨tbl, funs, n⟩ ops kd t D K st)) :
    WpE Tryz.prog ⟨tbl, funs, n⟩ ops kd (.ef i t .done) D K ⟨E, H, A⟩ := WpE.ef_of (P := Tryz.prog) (C := ⟨tbl, funs, n⟩) cx_ok hi hk h (.inl rfl)
theorem WpE.ef2 {i : Nat} {o : Oper} {t m : Tr} {D : World → Prop} {E : List (Nat × SV)} {H : List OE} {A : World} (hi : nth ops i = some o) (hk : kd i = .ef)
    (h : guardV ops ⟨E, H, A⟩ o.guard (fun st1 => stepV Tryz.prog ⟨tbl, funs, n⟩ st1 o.op fun s st' => putS n st' o.dst s fun st2 => Keep H D st2 ∧ WpE Tryz.prog ⟨tbl, funs, n⟩ ops kd t D K st2) (fun st => putS n st o.dst (.v undef) fun st => WpE Tryz.prog ⟨tbl, funs, n⟩ ops kd t D K st))
    (hm : WpE Tryz.prog ⟨tbl, funs, n⟩ ops kd m D K ⟨E, H, A⟩) :
    WpE Tryz.prog ⟨tbl, funs, n⟩ ops kd (.ef i t m) D K ⟨E, H, A⟩ := WpE.ef_of (P := Tryz.prog) (C := ⟨tbl, funs, n⟩) cx_ok hi hk h (.inr hm)
theorem WpE.br {i : Nat} {o : Oper} {t : Tr} {D : World → Prop} {st : St} (hi : nth ops i = some o) (hk : kd i = .br)
    (h : guardV ops st o.guard (fun st1 => stepV Tryz.prog ⟨tbl, funs, n⟩ st1 o.op fun s st' => putS n st' o.dst s fun st2 => WpB Tryz.prog ⟨tbl, funs, n⟩ ops kd t K st2) (fun st => putS n st o.dst (.v undef) fun st => WpE Tryz.prog ⟨tbl, funs, n⟩ ops kd t D K st)) :
    WpE Tryz.prog ⟨tbl, funs, n⟩ ops kd (.ef i t .done) D K st := WpE.br_of (P := Tryz.prog) (C := ⟨tbl, funs, n⟩) cx_ok hi hk h
theorem WpE.after {t : Tr} {E : List (Nat × SV)} {H : List OE} {A : World} (h : WpE Tryz.prog ⟨tbl, funs, n⟩ ops kd t (Ext A) K ⟨E, H, A⟩) : WpB Tryz.prog ⟨tbl, funs, n⟩ ops kd t K ⟨E, H, A⟩ := h
/-! Short names: a claim has a greatest size. -/
set_option linter.defProp false
theorem uR {i : Nat} {o : Oper} {t : Tr} {A0 : World} {E : List (Nat × SV)} {H : List OE} {A : World}
    (h : guardV ops ⟨E, H, A⟩ o.guard (fun st => match st with | ⟨E', H', A'⟩ => opV tbl ⟨E', H', A0⟩ o.op fun s => putS n ⟨E', H', A'⟩ o.dst s fun st => WpE Tryz.prog ⟨tbl, funs, n⟩ ops kd t (Ext A0) K st) (fun st => putS n st o.dst (.v undef) fun st => WpE Tryz.prog ⟨tbl, funs, n⟩ ops kd t (Ext A0) K st)) (hi : nth ops i = some o := by exact rfl) (hk : kd i = .rd := by exact rfl) :
    WpE Tryz.prog ⟨tbl, funs, n⟩ ops kd (.st i t) (Ext A0) K ⟨E, H, A⟩ := WpE.rd hi hk h
theorem uE {i : Nat} {o : Oper} {t : Tr} {D : World → Prop} {E : List (Nat × SV)} {H : List OE} {A : World}
    (h : guardV ops ⟨E, H, A⟩ o.guard (fun st1 => stepV Tryz.prog ⟨tbl, funs, n⟩ st1 o.op fun s st' => putS n st' o.dst s fun st2 => Keep H D st2 ∧ WpE Tryz.prog ⟨tbl, funs, n⟩ ops kd t D K st2) (fun st => putS n st o.dst (.v undef) fun st => WpE Tryz.prog ⟨tbl, funs, n⟩ ops kd t D K st)) (hi : nth ops i = some o := by exact rfl) (hk : kd i = .ef := by exact rfl) :
    WpE Tryz.prog ⟨tbl, funs, n⟩ ops kd (.ef i t .done) D K ⟨E, H, A⟩ := WpE.ef hi hk h
theorem uB {i : Nat} {o : Oper} {t : Tr} {D : World → Prop} {st : St}
    (h : guardV ops st o.guard (fun st1 => stepV Tryz.prog ⟨tbl, funs, n⟩ st1 o.op fun s st' => putS n st' o.dst s fun st2 => WpB Tryz.prog ⟨tbl, funs, n⟩ ops kd t K st2) (fun st => putS n st o.dst (.v undef) fun st => WpE Tryz.prog ⟨tbl, funs, n⟩ ops kd t D K st)) (hi : nth ops i = some o := by exact rfl) (hk : kd i = .br := by exact rfl) :
    WpE Tryz.prog ⟨tbl, funs, n⟩ ops kd (.ef i t .done) D K st := WpE.br hi hk h
theorem uM {P : Program} {C : Cx} {i : Nat} {o : Oper} {t : Tr} {D : World → Prop} {K : St → Prop} {st : St}
    (h : mvV st o fun s => putS C.n st o.dst s fun st => WpE P C ops kd t D K st) (hi : nth ops i = some o := by exact rfl) (hk : kd i = .mv := by exact rfl) : WpE P C ops kd (.st i t) D K st := WpE.mv hi hk h
def uA := @WpE.after
def uD := @WpE.done
variable {kx : List (Nat × (St → Prop))} {kr : St → Prop} {id : Nat} {l : List Oper}
theorem WpC.drawE {E : List (Nat × SV)} {H : List OE} {A : World} (t : Tr) (ks : List (Nat × Kd))
    (hok : (Region.noSelect l.toArray && okT l.toArray (kdL ks) 3 t true l.length (Array.replicate l.length false)) = true)
    (h : WpE Tryz.prog ⟨tbl, funs, n⟩ l (kdL ks) t (Ext A) K ⟨E, H, A⟩) : WpC Tryz.prog ⟨tbl, funs, n⟩ (.region id l.toArray true) K kx kr ⟨E, H, A⟩ := WpC.drawE_of (P := Tryz.prog) (C := ⟨tbl, funs, n⟩) cx_ok t ks hok h
theorem WpC.drawD {st : St} (D : World → Prop) (hD : ∀ w, Ext st.anc w → D w) (t : Tr) (ks : List (Nat × Kd))
    (hok : (Region.noSelect l.toArray && okT l.toArray (kdL ks) 3 t true l.length (Array.replicate l.length false)) = true)
    (h : WpE Tryz.prog ⟨tbl, funs, n⟩ l (kdL ks) t D K st) : WpC Tryz.prog ⟨tbl, funs, n⟩ (.region id l.toArray true) K kx kr st := WpC.drawD_of (P := Tryz.prog) (C := ⟨tbl, funs, n⟩) cx_ok D hD t ks hok h
end
end Go.Proofs.YtbnjjpgacemicaaGreatDoor.Vc
