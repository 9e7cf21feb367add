/- Short words for the printed walks: each stands for a chain of steps that the print spells out. -/
import Derived.Test.YtejmahnbecglfaaDoorCA

set_option linter.unusedVariables false
namespace Go.Proofs.YtejmahnbecglfaaDoor.PResid
open Go.RowKit Go.Proofs.YtejmahnbecglfaaDoorW.PrintWords Go.Proofs.YtejmahnbecglfaaDoorW.PrintLast Go.Proofs.YtejmahnbecglfaaDoorW.PrintMore
open Go.Proofs.YtejmahnbecglfaaDoor.OwnA (Glob glob_below)
theorem below_setA {w W : World} {g j : Nat} {v : Value} (h : Below w.heap.size w W) (hg : Aside0 (w.heap.size ≤ g)) : Below w.heap.size w (W.setCell ⟨g, j, none⟩ v) := below_set h hg.out
/-- as before, below -/
theorem bw {P : Prop} (h : P := by repeat (first | (with_reducible first | exact HB.out | apply below_alloc | apply pw_below_drewN | apply below_drew1 | refine below_setA ?_ (by assumption)) | exact HB.out)) : P := h
/-- a block, beyond draws and new memory -/
theorem ch {P Q : Prop} (h : Q) (k : Q → P := by intro h_; (with_reducible repeat (first | refine blk_drewN ?_ _ | refine blk_drew ?_ | refine blk_alloc ?_ _)); exact h_) : P := k h
theorem bkb {w w1 w2 : World} {g : Nat} {o : Obj} (x : Aside0 (w.heap[g]? = some o)) (hb : Below w1.heap.size w1 w2) (k : w.heap[g]? = some o → w1.heap[g]? = some o := by intro h_; (with_reducible repeat (first | refine blk_drewN ?_ _ | refine blk_drew ?_ | refine blk_alloc ?_ _)); exact h_) : Aside0 (w2.heap[g]? = some o) :=
  ⟨blk_below (k x.out) hb⟩
theorem bwb {W W2 : World} (w : World) (hb : Below W.heap.size W W2) (h : Below w.heap.size w W := by exact bw) : Aside0 (Below w.heap.size w W2) := ⟨below_step h hb⟩
theorem szb {W : World} (w : World) {g : Nat} (hg : g = W.heap.size) (h : Below w.heap.size w W := by exact bw) : Aside0 (w.heap.size ≤ g) := ⟨hg ▸ below_size h⟩
theorem nlt {w W : World} {g g' : Nat} {o : Obj} (x : Aside0 (w.heap[g]? = some o)) (hg : g' = W.heap.size) (k : w.heap[g]? = some o → W.heap[g]? = some o := by intro h_; (with_reducible repeat (first | refine blk_drewN ?_ _ | refine blk_drew ?_ | refine blk_alloc ?_ _)); exact h_) : Aside0 (g ≠ g') :=
  ⟨hg ▸ Nat.ne_of_lt (blk_lt (k x.out))⟩
theorem ngt {w W : World} {g g' : Nat} {o : Obj} (x : Aside0 (w.heap[g]? = some o)) (hg : g' = W.heap.size) (k : w.heap[g]? = some o → W.heap[g]? = some o := by intro h_; (with_reducible repeat (first | refine blk_drewN ?_ _ | refine blk_drew ?_ | refine blk_alloc ?_ _)); exact h_) : Aside0 (g' ≠ g) :=
  ⟨hg ▸ Nat.ne_of_gt (blk_lt (k x.out))⟩
theorem cz3 {W : World} {g : Nat} {a b c : Value} {t : TypeId} (x : Aside0 (W.heap[g]? = some (.cells #[a, b, c] t (0, 0)))) :
    W.cell? ⟨g, 0, none⟩ = some a ∧ W.cell? ⟨g, 1, none⟩ = some b ∧ W.cell? ⟨g, 2, none⟩ = some c ∧ W.frozen? ⟨g, 0, none⟩ = false ∧ W.frozen? ⟨g, 1, none⟩ = false ∧ W.frozen? ⟨g, 2, none⟩ = false :=
  ⟨blk_cell x.out 0, blk_cell x.out 1, blk_cell x.out 2, blk_frozen x.out 0, blk_frozen x.out 1, blk_frozen x.out 2⟩
theorem cz2 {W : World} {g : Nat} {a b : Value} {t : TypeId} (x : Aside0 (W.heap[g]? = some (.cells #[a, b] t (0, 0)))) :
    W.cell? ⟨g, 0, none⟩ = some a ∧ W.cell? ⟨g, 1, none⟩ = some b ∧ W.frozen? ⟨g, 0, none⟩ = false ∧ W.frozen? ⟨g, 1, none⟩ = false :=
  ⟨blk_cell x.out 0, blk_cell x.out 1, blk_frozen x.out 0, blk_frozen x.out 1⟩
section
variable {P : Program} {ops : Array Oper} {rest : List Oper} {o : Oper} {a : Act} {Q : Exit → Act → World → Prop}
theorem bxe {W : World} {N : Tmp} {cs : Array Value} {t : TypeId}
    (h : ∀ g, g = W.heap.size → ∀ w1, w1.heap[g]? = some (.cells cs t (0, 0)) → Below W.heap.size W w1 → wpList P ops Q rest (a.put o.dst (.pointer (some ⟨g, 0, none⟩))) w1)
    (hgd : o.guard = none := by rfl) (hd : o.dst = some N := by rfl)
    (hrun : (execOp a.eval o).run P W = .ok (.value (.pointer (some ⟨W.heap.size, 0, none⟩))) (W.alloc (.cells cs t (0, 0))) := by first | (go_simp; done) | (go_simp; rfl)) : wpList P ops Q (o :: rest) a W :=
  box_event hgd hd hrun h
end
theorem ew {P : Prop} (h : P := by first | rfl | (simp [*] <;> rfl)) : P := h
theorem e1 {P : Prop} (h : P := by first | rfl | (simp; done) | (simp [*]; done)) : P := h
theorem gl {P : Prop} (h : P := by (try simp only [List.map_toArray, List.map_cons, List.map_nil]); first | done | rfl | (simp only [List.length_drop, List.length_take]; rfl)) : P := h
theorem glb {w w' : World} (h : Glob w) (hb : Below w.heap.size w w' := by exact bw) : Glob w' := glob_below (n := w.heap.size) h hb
end Go.Proofs.YtejmahnbecglfaaDoor.PResid
