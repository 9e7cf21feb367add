/- The program, as abstract code and given functions. -/
import Derived.Test.YtejmahnbecglfaaDoorCP2
import Derived.Test.YtejmahnbecglfaaDoorCIr

set_option linter.unusedVariables false
namespace Go.Proofs.YtejmahnbecglfaaDoor.Den
open Go Go.RowKit
open Go.Proofs.YtejmahnbecglfaaDoor.OwnA (Glob glob_below)
def tab : List (Nat × FnIr) := [(3, ir3), (5, ir5), (6, ir6), (7, ir7), (8, ir8), (9, ir9), (10, ir10), (11, ir11), (12, ir12), (13, ir13), (14, ir14), (15, ir15), (16, ir16), (17, ir17), (18, ir18), (19, ir19), (20, ir20), (21, ir21), (22, ir22), (23, ir23), (24, ir24), (25, ir25), (26, ir26), (27, ir27), (28, ir28), (29, ir29), (30, ir30), (32, ir32), (33, ir33), (34, ir34), (35, ir35), (36, ir36), (37, ir37), (38, ir38), (39, ir39), (41, ir41), (45, ir45), (47, ir47), (48, ir48), (49, ir49), (50, ir50), (51, ir51), (52, ir52), (55, ir55), (56, ir56), (57, ir57), (58, ir58), (59, ir59), (60, ir60), (61, ir61), (63, ir63), (66, ir66), (67, ir67), (68, ir68), (69, ir69), (71, ir71), (73, ir73), (74, ir74), (76, ir76), (77, ir77), (78, ir78), (80, ir80), (81, ir81), (82, ir82), (83, ir83), (85, ir85), (86, ir86), (89, ir89), (95, ir95), (98, ir98), (99, ir99), (104, ir104)]
def prims : List (Nat × (List V → Option V)) := [(31, p31), (75, p75), (84, p84), (72, p72), (87, p87), (88, p88), (91, p91), (92, p92), (90, p90)]
def E : Env := ⟨fun f => tab.lookup f, fun f => prims.lookup f⟩
theorem lookup_mem {α : Type} : ∀ (l : List (Nat × α)) (f : Nat) (x : α), l.lookup f = some x → (f, x) ∈ l
  | [], f, x, h => by simp at h
  | (k, y) :: l, f, x, h => by
    rw [List.lookup_cons] at h
    split at h
    · rename_i e
      simp only [beq_iff_eq] at e
      simp only [Option.some.injEq] at h
      rw [e, h]
      exact List.mem_cons_self ..
    · exact List.mem_cons_of_mem _ (lookup_mem l f x h)
theorem tabOk : ∀ p ∈ tab, chkF Tryd.prog p.1 p.2 = true := List.forall_mem_cons.2 ⟨chk3, List.forall_mem_cons.2 ⟨chk5, List.forall_mem_cons.2 ⟨chk6, List.forall_mem_cons.2 ⟨chk7, List.forall_mem_cons.2 ⟨chk8, List.forall_mem_cons.2 ⟨chk9, List.forall_mem_cons.2 ⟨chk10, List.forall_mem_cons.2 ⟨chk11, List.forall_mem_cons.2 ⟨chk12, List.forall_mem_cons.2 ⟨chk13, List.forall_mem_cons.2 ⟨chk14, List.forall_mem_cons.2 ⟨chk15, List.forall_mem_cons.2 ⟨chk16, List.forall_mem_cons.2 ⟨chk17, List.forall_mem_cons.2 ⟨chk18, List.forall_mem_cons.2 ⟨chk19, List.forall_mem_cons.2 ⟨chk20, List.forall_mem_cons.2 ⟨chk21, List.forall_mem_cons.2 ⟨chk22, List.forall_mem_cons.2 ⟨chk23, List.forall_mem_cons.2 ⟨chk24, List.forall_mem_cons.2 ⟨chk25, List.forall_mem_cons.2 ⟨chk26, List.forall_mem_cons.2 ⟨chk27, List.forall_mem_cons.2 ⟨chk28, List.forall_mem_cons.2 ⟨chk29, List.forall_mem_cons.2 ⟨chk30, List.forall_mem_cons.2 ⟨chk32, List.forall_mem_cons.2 ⟨chk33, List.forall_mem_cons.2 ⟨chk34, List.forall_mem_cons.2 ⟨chk35, List.forall_mem_cons.2 ⟨chk36, List.forall_mem_cons.2 ⟨chk37, List.forall_mem_cons.2 ⟨chk38, List.forall_mem_cons.2 ⟨chk39, List.forall_mem_cons.2 ⟨chk41, List.forall_mem_cons.2 ⟨chk45, List.forall_mem_cons.2 ⟨chk47, List.forall_mem_cons.2 ⟨chk48, List.forall_mem_cons.2 ⟨chk49, List.forall_mem_cons.2 ⟨chk50, List.forall_mem_cons.2 ⟨chk51, List.forall_mem_cons.2 ⟨chk52, List.forall_mem_cons.2 ⟨chk55, List.forall_mem_cons.2 ⟨chk56, List.forall_mem_cons.2 ⟨chk57, List.forall_mem_cons.2 ⟨chk58, List.forall_mem_cons.2 ⟨chk59, List.forall_mem_cons.2 ⟨chk60, List.forall_mem_cons.2 ⟨chk61, List.forall_mem_cons.2 ⟨chk63, List.forall_mem_cons.2 ⟨chk66, List.forall_mem_cons.2 ⟨chk67, List.forall_mem_cons.2 ⟨chk68, List.forall_mem_cons.2 ⟨chk69, List.forall_mem_cons.2 ⟨chk71, List.forall_mem_cons.2 ⟨chk73, List.forall_mem_cons.2 ⟨chk74, List.forall_mem_cons.2 ⟨chk76, List.forall_mem_cons.2 ⟨chk77, List.forall_mem_cons.2 ⟨chk78, List.forall_mem_cons.2 ⟨chk80, List.forall_mem_cons.2 ⟨chk81, List.forall_mem_cons.2 ⟨chk82, List.forall_mem_cons.2 ⟨chk83, List.forall_mem_cons.2 ⟨chk85, List.forall_mem_cons.2 ⟨chk86, List.forall_mem_cons.2 ⟨chk89, List.forall_mem_cons.2 ⟨chk95, List.forall_mem_cons.2 ⟨chk98, List.forall_mem_cons.2 ⟨chk99, List.forall_mem_cons.2 ⟨chk104, (fun _ h => by cases h)⟩⟩⟩⟩⟩⟩⟩⟩⟩⟩⟩⟩⟩⟩⟩⟩⟩⟩⟩⟩⟩⟩⟩⟩⟩⟩⟩⟩⟩⟩⟩⟩⟩⟩⟩⟩⟩⟩⟩⟩⟩⟩⟩⟩⟩⟩⟩⟩⟩⟩⟩⟩⟩⟩⟩⟩⟩⟩⟩⟩⟩⟩⟩⟩⟩⟩⟩⟩⟩⟩⟩⟩
theorem primOk : ∀ p ∈ prims, ∀ args r, p.2 args = some r → Sp Tryd.prog Glob p.1 args r := List.forall_mem_cons.2 ⟨fun _ _ h => sp31 h, List.forall_mem_cons.2 ⟨fun _ _ h => sp75 h, List.forall_mem_cons.2 ⟨fun _ _ h => sp84 h, List.forall_mem_cons.2 ⟨fun _ _ h => sp72 h, List.forall_mem_cons.2 ⟨fun _ _ h => sp87 h, List.forall_mem_cons.2 ⟨fun _ _ h => sp88 h, List.forall_mem_cons.2 ⟨fun _ _ h => sp91 h, List.forall_mem_cons.2 ⟨fun _ _ h => sp92 h, List.forall_mem_cons.2 ⟨fun _ _ h => sp90 h, (fun _ h => by cases h)⟩⟩⟩⟩⟩⟩⟩⟩⟩
theorem glob_of_below {w0 w w' : World} (h0 : Glob w0) (h : Glob w) (hB : Below w0.heap.size w w') : Glob w' := fun j hj => (hB.cell (World.block_lt_of_cell? w0 _ (h0 j hj))).trans (h j hj)
theorem EOk : E.Ok Tryd.prog Glob where
  fns := fun f F h => tabOk (f, F) (lookup_mem tab f F h)
  prim := fun f p args r h hr => primOk (f, p) (lookup_mem prims f p h) args r hr
  mixed := by kernel_rfl
  gl := fun w0 w w' h0 h hB => glob_of_below h0 h hB
end Go.Proofs.YtejmahnbecglfaaDoor.Den
