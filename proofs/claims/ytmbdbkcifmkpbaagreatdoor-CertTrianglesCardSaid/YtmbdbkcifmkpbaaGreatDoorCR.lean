/- The rows' common parts: what is laid, a matrix as an argument. -/
import Derived.Test.YtmbdbkcifmkpbaaGreatDoorCLB
import Derived.Test.YtmbdbkcifmkpbaaGreatDoorRows
import Derived.Test.YtmbdbkcifmkpbaaGreatDoorCO
import Derived.WalkKit
import Derived.ProofKit
import Derived.OpenShut
import Derived.LaidMore
import Derived.Stop.Joined
import Derived.SizedLaws
import Derived.ChangeOld

set_option linter.unusedVariables false
set_option linter.unusedSimpArgs false
namespace Go.Proofs.YtmbdbkcifmkpbaaGreatDoor.Rw
open Go Go.ChangeShapes Go.WideShapes Go.ChangeAt Go.RowKit Go.Proofs.YtmbdbkcifmkpbaaGreatDoor.Den Go.Proofs.YtmbdbkcifmkpbaaGreatDoorW.PrintWords
open Go.Proofs.YtmbdbkcifmkpbaaGreatDoor.OwnA (u64s Glob)
set_option maxRecDepth 100000
theorem own : ownKnob Tryz.prog.godebug = none := by kernel_rfl
theorem laidOut : laidOutB Tryz.prog = true := by kernel_rfl
noncomputable abbrev laid1 : List (String × DataW Unit) := [("math/bits.deBruijn64tab", Rows.laid_math_bits_deBruijn64tab)]
theorem gTab : Tryz.prog.globalNamed "math/bits.deBruijn64tab" = some 0 := by kernel_rfl
theorem tTab : (Tryz.prog.globals[0]?).map (·.type) = some 169 := by kernel_rfl
theorem laid_is : (Rows.laid_math_bits_deBruijn64tab : DataW Unit) = .agg (Lib.deBruijn64tab.map fun n : Nat => .lit (.int .u8 (n : Int))) := by rfl
theorem door_met (os : Os) (args : Array Value) : laidMetH Tryz.prog laid1 ((World.doorLaid Tryz.prog 400 os).forCall (fun _ _ => 0) ⟨#[], args, []⟩).memory :=
  laidMetH_of_parts3 (fuel := 8) (laidMet_of_run' 8 (by kernel_rfl) (by kernel_rfl)) (by kernel_rfl) (by kernel_rfl)
theorem glob_of {W : World} (h : laidMetH Tryz.prog laid1 W) : Glob W := by
  rw [MakeChecks.laidMetH_plain _ _ _ (by kernel_rfl)] at h
  obtain ⟨ps, ⟨g0, t0, cs0, f0, p0, q0, hg0, ht0, hv0, hd0, _, _⟩, _, _⟩ := h
  obtain rfl := Option.some.inj (gTab.symm.trans hg0)
  obtain rfl := Option.some.inj (tTab.symm.trans ht0)
  rw [laid_is] at hd0
  obtain ⟨xs, m1, rfl, hx1, hlen, hn3, hel⟩ := DataW.trod_array Tryz.underlying169 hd0
  have c5 : Tryz.prog.cellsOf 5 = 1 := by kernel_rfl
  have c125 : Tryz.prog.cellsOf 169 = 64 := by kernel_rfl
  simp only [Prod.mk.injEq, DataW.agg.injEq] at hx1
  intro j hj
  have hl64 : Lib.deBruijn64tab.length = 64 := by rfl
  have hj64 : j < 64 := by omega
  have h0 := hel j hj64
  have hjx : j < xs.length := by omega
  rw [List.getElem?_eq_getElem hjx] at h0
  obtain ⟨k, e1, e2, _⟩ := DataW.trod_int Tryz.underlying5 h0
  have hk := congrArg (fun l => l[j]?) hx1.1
  simp only [List.getElem?_map, List.getElem?_eq_getElem hjx, List.getElem?_eq_getElem hj, Option.map_some, Option.some.injEq] at hk
  rw [e2] at hk
  simp only [DataW.lit.injEq, Lit.int.injEq, true_and] at hk
  have hc := World.var?_cell hg0 hv0 j
  rw [hc]
  rw [c5, Nat.mul_one] at e1
  have hlt : j < cs0.toList.length := by rw [hlen, c125]; exact hj64
  rw [List.drop_eq_getElem_cons hlt] at e1
  simp only [List.take_succ_cons, List.take_zero, List.cons.injEq, and_true] at e1
  have hlt' : j < cs0.size := by simpa using hlt
  rw [Array.getElem?_eq_getElem hlt', List.getD_eq_getElem?_getD, List.getElem?_eq_getElem hj, Option.getD_some]
  rw [Array.getElem_toList] at e1
  rw [e1, ← hk]
theorem uw64 {y : Int} (h : (Lit.int .u64 y).wf = true) : 0 ≤ y ∧ y < 18446744073709551616 := by
  have := bounds_u64 h
  omega
/-- A MATRIX, OPENED. -/
theorem mat_open {H : Type} {enc : TypeId × Value → H} {W : World} {base : Nat} {sp : Nat → Bool} {held : Bool} {v : Value} {d : DataW H} {ps : List MemPlace}
    (hv : Value.okWide Tryz.prog W .any base 24 v) (h : DataW.Trod enc Tryz.prog W 0 sp held 24 v d ps) : ∃ m : Mt, Rel (ctx0 fun _ => False) W (encM m) v ∧ u64s m.l := by
  obtain ⟨cs, rfl, hs⟩ := okWide_struct Tryz.underlying24 hv
  obtain ⟨fuel, hf⟩ := h
  have hd : OwnOpen.Opens enc Tryz.prog W 0 sp held 58 (Kd.int .u64) (fun n => (Lit.int .u64 n).wf = true) := OwnOpen.opens_int Tryz.underlying58
  have hi : OwnOpen.Opens enc Tryz.prog W 0 sp held 3 (Kd.int .i64) (fun n => (Lit.int .i64 n).wf = true) := OwnOpen.opens_int Tryz.underlying3
  have hr : OwnOpen.Opens enc Tryz.prog W 0 sp held 22 (Kd.slice 58 (Kd.int .u64)) (fun xs => ∀ x ∈ xs, (Lit.int .u64 x).wf = true) := OwnOpen.opens_row 58 Tryz.underlying22 (by kernel_rfl) hd
  obtain ⟨⟨r, c, l⟩, hk, _, _, hl⟩ := OwnOpen.opens_struct Tryz.underlying24 (by kernel_rfl) (OwnOpen.opensF_cons rfl (by kernel_rfl) hi (OwnOpen.opensF_cons rfl (by kernel_rfl) hi (OwnOpen.opensF_last rfl (by kernel_rfl) hr))) _ _ _ hf
  obtain ⟨c1, c2, e1, k1, c3, c4, e2, k2, A, cap, e3, h4, h5⟩ := hk
  subst k1
  subst k2
  subst e3
  refine ⟨⟨r, c, l⟩, ?_, fun y hy => uw64 (hl y hy)⟩
  have hcs : cs.toList = [.int .i64 r, .int .i64 c, .slice A l.length cap] := by
    rw [e2] at e1
    simpa [Value.cells] using e1
  unfold encM mat Rel
  refine ⟨[.int .i64 r, .int .i64 c, .slice A l.length cap], by rw [← hcs], ?_⟩
  rw [RelL]
  refine ⟨_, _, rfl, Rel_mkint _ _, ?_⟩
  rw [RelL]
  refine ⟨_, _, rfl, Rel_mkint _ _, ?_⟩
  rw [RelL]
  refine ⟨_, _, rfl, ?_, by rw [RelL]⟩
  show relP (ctx0 fun _ => False).hot W (limbs l) [_]
  refine C_limbs h5 h4 fun ad e hp hh => ?_
  rw [hot0] at hh
  exact hh
end Go.Proofs.YtmbdbkcifmkpbaaGreatDoor.Rw
