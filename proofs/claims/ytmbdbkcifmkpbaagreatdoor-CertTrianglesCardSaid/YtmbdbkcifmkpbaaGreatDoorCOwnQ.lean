/- Short words for the printed walks: each stands for a chain of steps that the print spells out. -/
import Derived.Test.YtmbdbkcifmkpbaaGreatDoorCA

set_option linter.unusedVariables false
namespace Go.Proofs.YtmbdbkcifmkpbaaGreatDoor.PResid
open Go.RowKit Go.Proofs.YtmbdbkcifmkpbaaGreatDoorW.PrintWords Go.Proofs.YtmbdbkcifmkpbaaGreatDoorW.PrintLast Go.Proofs.YtmbdbkcifmkpbaaGreatDoorW.PrintMore
open Go.Proofs.YtmbdbkcifmkpbaaGreatDoor.OwnA (Glob glob_below)
theorem below_setA {w W : World} {g j : Nat} {v : Value} (h : Below w.heap.size w W) (hg : Aside0 (w.heap.size ≤ g)) : Below w.heap.size w (W.setCell ⟨g, j, none⟩ v) := below_set h hg.out
/-- as before, below -/
theorem bw {P : Prop} (h : P := by repeat (first | (with_reducible first | exact HB.out | apply below_alloc | apply pw_below_drewN | apply below_drew1 | refine below_setA ?_ (by assumption)) | exact HB.out)) : P := h
/-- a block, beyond draws and new memory -/
theorem ch {P Q : Prop} (h : Q) (k : Q → P := by intro h_; (with_reducible repeat (first | refine blk_drewN ?_ _ | refine blk_drew ?_ | refine blk_alloc ?_ _)); exact h_) : P := k h
section
variable {P : Program} {ops : Array Oper} {rest : List Oper} {o : Oper} {a : Act} {Q : Exit → Act → World → Prop}
end
theorem e1 {P : Prop} (h : P := by first | rfl | (simp; done) | (simp [*]; done)) : P := h
theorem gl {P : Prop} (h : P := by (try simp only [List.map_toArray, List.map_cons, List.map_nil]); first | done | rfl | (simp only [List.length_drop, List.length_take]; rfl)) : P := h
theorem glb {w w' : World} (h : Glob w) (hb : Below w.heap.size w w' := by exact bw) : Glob w' := glob_below (n := w.heap.size) h hb
end Go.Proofs.YtmbdbkcifmkpbaaGreatDoor.PResid
