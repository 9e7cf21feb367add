/- ScriptBack: for every input the call returns true; no conditions. The row, joined to the walk and the plain law. -/
import Derived.Test.YthmakmmfbdmdfaaRows
import Derived.Test.YthmakmmfbdmdfaaOwnSc11
import Derived.Test.YthmakmmfbdmdfaaOwnOpen
import Derived.WalkKit
import Derived.ProofKit
import Derived.OpenShut
import Derived.ShutString
import Derived.ChangeOld
import Derived.Below
import Derived.SizedLaws
namespace Go.Proofs.Ythmakmmfbdmdfaa.scriptBack
open Go.ChangeShapes Go.WideShapes Go.ChangeAt Go.RowKit
open Go.ChangeMaps (open_string shut_string)
open Go.Proofs.Ythmakmmfbdmdfaa.PScriptBack Go.Proofs.YthmakmmfbdmdfaaW.PrintWords
set_option linter.unusedVariables false
theorem own : ownKnob Try.prog.godebug = none := by kernel_rfl
theorem laidOut : laidOutB Try.prog = true := by kernel_rfl
theorem steps {H : Type} {enc : TypeId × Value → H} {w : World} {base : Nat} {sp : Nat → Bool} {held : Bool} : OwnOpen.Opens enc Try.prog w base sp held 53 k53 (fun x => ∀ y ∈ x.f5.f2, (Lit.int .u64 y).wf = true) := by
  have hd : OwnOpen.Opens enc Try.prog w base sp held 22 (Kd.int .u64) (fun n => (Lit.int .u64 n).wf = true) := OwnOpen.opens_int Try.underlying22
  have hi : OwnOpen.Opens enc Try.prog w base sp held 3 (Kd.int .i64) (fun n => (Lit.int .i64 n).wf = true) := OwnOpen.opens_int Try.underlying3
  have hr : OwnOpen.Opens enc Try.prog w base sp held 33 (Kd.slice 22 (Kd.int .u64)) (fun xs => ∀ x ∈ xs, (Lit.int .u64 x).wf = true) := OwnOpen.opens_row 22 Try.underlying33 (by kernel_rfl) hd
  have hm : OwnOpen.Opens enc Try.prog w base sp held 51 k51 (fun x => ∀ y ∈ x.f2, (Lit.int .u64 y).wf = true) := by
    intro fuel cs x hx
    obtain ⟨a, ha, oa⟩ := OwnOpen.opens_iso (f := fun x : S51 => (x.f0, x.f1, x.f2)) (fun y => ⟨y.1, y.2.1, y.2.2⟩) (fun _ => rfl) (OwnOpen.opens_struct Try.underlying51 (by kernel_rfl) (OwnOpen.opensF_cons rfl (by kernel_rfl) hi (OwnOpen.opensF_cons rfl (by kernel_rfl) hi (OwnOpen.opensF_last rfl (by kernel_rfl) hr)))) fuel cs x hx
    exact ⟨a, ha, oa.2.2⟩
  intro fuel cs x hx
  obtain ⟨a, ha, oa⟩ := OwnOpen.opens_iso (f := fun x : S53 => (x.f0, x.f1, x.f2, x.f3, x.f4, x.f5)) (fun y => ⟨y.1, y.2.1, y.2.2.1, y.2.2.2.1, y.2.2.2.2.1, y.2.2.2.2.2⟩) (fun _ => rfl) (OwnOpen.opens_struct Try.underlying53 (by kernel_rfl) (OwnOpen.opensF_cons rfl (by kernel_rfl) hi (OwnOpen.opensF_cons rfl (by kernel_rfl) hi (OwnOpen.opensF_cons rfl (by kernel_rfl) hi (OwnOpen.opensF_cons rfl (by kernel_rfl) hi (OwnOpen.opensF_cons rfl (by kernel_rfl) hi (OwnOpen.opensF_last rfl (by kernel_rfl) hm))))))) fuel cs x hx
  exact ⟨a, ha, oa.2.2.2.2.2⟩
theorem uw64 {y : Int} (h : (Lit.int .u64 y).wf = true) : 0 ≤ y ∧ y < 18446744073709551616 := by
  have := bounds_u64 h
  omega
theorem uw8 {y : Int} (h : (Lit.int .u8 y).wf = true) : 0 ≤ y ∧ y < 256 := by
  have := bounds_u8 h
  omega
set_option maxRecDepth 100000 in
theorem lifted (os : Os) (started : os.Started) (H : Type) (enc : TypeId × Value → H) :
    ReturnsInHanded {} Try.checked os 8 .any (Rows.scriptBackSpec.pre6 enc Try.prog Try.f8 Rows.scriptBackRow.domain false) (Rows.scriptBackSpec.post enc Try.prog Try.f8 false true false false) := by
  refine returnsInHanded_of_change_sized (C := Try.checked) own started (by kernel_rfl) Try.func8
    (ChangeSpec.witness6 (enc := enc) (C := Try.checked) false ⟨#[], #[.slice none 0 0, .slice none 0 0], []⟩ 8 (by kernel_rfl) (by kernel_rfl) (by kernel_rfl) (by kernel_rfl)) ?_
  intro W base args ds gs before hval0 hW hcnd hsz0 _
  have hsz : (DataW.weightsEach Try.prog (Try.f8.params.toList ++ Rows.scriptBackSpec.plain.varTypes Try.prog) (ds ++ gs)).all (· ≤ reachBytes) = true := hsz0
  have hval : ∀ (j : Nat) t v, Try.f8.params[j]? = some t → args[j]? = some v → Value.okWide Try.prog W .any base t v := hval0
  have hW' := hW
  obtain ⟨p, q, hA0, hV, rfl, hfz, hnd⟩ := hW
  have hA : DataW.TrodAll enc Try.prog W 0 (fun _ => true) true Try.f8.params.toList args.toList ds p := hA0
  rw [Try.params8] at hA hval hsz
  obtain ⟨v0, vs0, d0, ds0, p0, q0, hargs, rfl, rfl, h0, r0⟩ := trodAll_cons hA
  obtain ⟨v1, vs1, d1, ds1, p1, q1, rfl, rfl, rfl, h1, r1⟩ := trodAll_cons r0
  obtain ⟨rfl, rfl, rfl⟩ := trodAll_nil r1
  obtain rfl : args = #[v0, v1] := by cases args; simp_all
  obtain ⟨rfl, rfl⟩ := trodVars_none hV
  obtain ⟨a0, len0, cap0, rfl⟩ := okWide_slice Try.underlying42 (hval 0 42 v0 rfl rfl)
  have k0 := h0
  have lt0 : ∀ x ∈ p0, x.block < W.heap.size := by obtain ⟨m, hm⟩ := k0; exact DataW.trod_lt m _ _ _ hm
  have y0 : len0 * 80 ≤ 140737488351232 := OwnOpen.sized_row hsz (j := 0) (t := 42) rfl rfl Try.underlying42 (by kernel_rfl) h0
  obtain ⟨z0, rfl, l0, w0, o0⟩ := OwnOpen.open_slice Try.underlying42 (by kernel_rfl) steps h0
  obtain ⟨a1, len1, cap1, rfl⟩ := okWide_slice Try.underlying43 (hval 1 43 v1 rfl rfl)
  have k1 := h1
  have lt1 : ∀ x ∈ p1, x.block < W.heap.size := by obtain ⟨m, hm⟩ := k1; exact DataW.trod_lt m _ _ _ hm
  obtain ⟨z1, rfl, l1, w1, o1⟩ := OwnOpen.open_slice Try.underlying43 (by kernel_rfl) (OwnOpen.opens_int Try.underlying5) h1
  clear hA0 hval0 hsz0 hsz
  refine (OwnSc.back_calls a0 a1 cap0 cap1 z0 z1 W w0 (by omega) (fun x hx y hy => uw64 (o0 x hx y hy)) w1 l1 (fun y hy => uw8 (o1 y hy))).mono fun e W' ⟨he, bel⟩ => ?_
  subst he
  exact ⟨_, rfl, _, _, _, [], _, [], hW', trodAll_mk1 (shut_bool Try.underlying4 _), (trodAll_cons_mk (Below.trod laidOut (by kernel_rfl) (of_decide_eq_true (by kernel_rfl)) k0 bel lt0) (trodAll_cons_mk (Below.trod laidOut (by kernel_rfl) (of_decide_eq_true (by kernel_rfl)) k1 bel lt1) trodAll_mk0)), rfl, bel.frame _, fun h => by cases h⟩
theorem over : Rows.scriptBackRow.holds Try.pinned (OpenSpec.ofChange Rows.scriptBackSpec) :=
  OpenClaim.holds_of_wide 8 Try.f8 rfl rfl rfl rfl rfl rfl rfl ⟨rfl, rfl, rfl, rfl, rfl⟩ rfl rfl rfl rfl rfl (by kernel_rfl) Try.func8 (by kernel_rfl)
    (of_decide_eq_true (by kernel_rfl)) (by unfold Func.isWrapper; first | (rw [if_pos (by decide +kernel)]; kernel_rfl) | (rw [if_neg (by decide +kernel)]; exact ⟨rfl, rfl⟩))
    (fun os started H enc _ => lifted os started H enc)
theorem proved : Rows.ScriptBackSaid := over
#print axioms proved
end Go.Proofs.Ythmakmmfbdmdfaa.scriptBack
namespace Go.Proofs.Ythmakmmfbdmdfaa
/-- The row, under a short name, for the claim. -/
theorem scriptBack_holds : Rows.ScriptBackSaid := scriptBack.proved
end Go.Proofs.Ythmakmmfbdmdfaa
