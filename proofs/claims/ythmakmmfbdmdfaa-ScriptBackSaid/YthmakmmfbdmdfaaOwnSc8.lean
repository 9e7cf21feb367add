/- Scripts, walked: alive. -/
import Derived.Test.YthmakmmfbdmdfaaOwnSc7
import Derived.Test.YthmakmmfbdmdfaaOwnScP
set_option linter.unusedVariables false
set_option linter.unusedSimpArgs false
namespace Go.Proofs.Ythmakmmfbdmdfaa.OwnSc
open Go.RowKit Go.Proofs.Ythmakmmfbdmdfaa.PScriptBack Go.Proofs.YthmakmmfbdmdfaaW.PrintWords Go.Proofs.YthmakmmfbdmdfaaW.PrintLast Go.Proofs.YthmakmmfbdmdfaaW.PrintMore
attribute [local go_sem] max2_int min2_int max_two min_two max_three min_three max_four min_four

/-- alive's step -/
def aS : S53 := ⟨3, 1, 0, 0, 0, ⟨0, 0, []⟩⟩
theorem putF_a : putF [aS] = ([3, 1, 0, 0, 0, 0, 0], 0) := by decide
theorem readF_a : readF [3, 1, 0, 0, 0, 0, 0] = ([aS], 0) := by rfl
theorem C_a {W : World} {g : Nat} (h : W.heap[g]? = some (.cells #[.int .i64 3, .int .i64 1, .int .i64 0, .int .i64 0, .int .i64 0, .int .i64 0, .int .i64 0, .slice none 0 0] 53 (0, 0))) : Kd.C k53 W (some ⟨g, 0, none⟩) [aS].length [aS] := by
  refine ⟨rfl, by decide, fun _ => ⟨_, rfl, fun j p hj => ?_⟩⟩
  cases j with
  | succ j => simp at hj
  | zero =>
    simp at hj
    subst hj
    refine ⟨[.int .i64 3, .int .i64 1, .int .i64 0, .int .i64 0, .int .i64 0, .int .i64 0, .int .i64 0, .slice none 0 0], rfl, k53_mk W aS (A7 := none) (c7 := 0) (by decide) (Kd.C_nil _ _), fun i u hu => ?_⟩
    obtain ⟨q0, q1, q2, q3, q4, q5, q6, q7⟩ := cells8 h
    rcases i with _ | _ | _ | _ | _ | _ | _ | _ | i
    all_goals first | (simp at hu; subst hu; first | exact q0 | exact q1 | exact q2 | exact q3 | exact q4 | exact q5 | exact q6 | exact q7) | (simp at hu)

set_option maxHeartbeats 800000 in
set_option maxRecDepth 100000 in
theorem alive_calls (w : World) : Calls Try.prog 27 #[] w fun e w' => e = .returned (.bool true) ∧ Below w.heap.size w w' := by
  have HW := Aside0.mk (Below.refl w.heap.size w)
  go_enter Try.func27, Try.ntmps27
  go_wp2_with fail
  have hC := C_a (W := w.alloc (.cells #[.int .i64 3, .int .i64 1, .int .i64 0, .int .i64 0, .int .i64 0, .int .i64 0, .int .i64 0, .slice none 0 0] 53)) (g := w.heap.size) (World.alloc_heap_new w _)
  refine (put_ok (some ⟨w.heap.size, 0, none⟩) 1 [aS] _ hC (by decide) (by decide) (by decide) (by decide)).mono ?_
  rintro e w1 ⟨v, L, n, hp, rfl, hR, hB⟩
  rw [putF_a] at hp
  injection hp with h1 h2
  subst h1
  subst h2
  obtain ⟨A1, c1, rfl, hl1, hC1⟩ := Kd.R_reads hR
  have HB := Aside0.mk (below_step ((Below.refl w.heap.size w).alloc (Nat.le_refl _) _) hB)
  clear hR hB hC HW
  have hl7 : ([3, 1, 0, 0, 0, 0, 0] : List Int).length = 7 := rfl
  rw [hl7] at hl1 hC1 ⊢
  have HC1 := Aside0.mk hC1
  have HL1 := Aside0.mk hl1
  clear hC1 hl1 hl7
  go_wp2_with fail
  refine (read_calls A1 c1 [3, 1, 0, 0, 0, 0, 0] _ HL1.out (by intro y hy; simp at hy; omega) HC1.out).mono ?_
  rintro e w2 ⟨v, rfl, hN, hB⟩
  rw [readF_a] at hN ⊢
  obtain ⟨A2, c2, rfl, hl2, hC2⟩ := Kd.N_reads hN
  obtain ⟨ad, A7, c7, rfl, q0, q1, q2, q3, q4, q5, q6, q7, _, _⟩ := at_T53 hC2 0 (by decide) (by decide)
  have HB2 := Aside0.mk (below_step HB.out hB)
  replace q1 : w2.cell? ⟨ad.block, ad.off + 1, none⟩ = some (.int .i64 1) := q1
  clear hN hB hC2 hl2 q0 q2 q3 q4 q5 q6 q7
  have hl8 : ([aS] : List S53).length = 1 := rfl
  rw [hl8]
  clear hl8
  go_wp2
  go_ret
  exact ⟨rfl, HB2.out⟩
end Go.Proofs.Ythmakmmfbdmdfaa.OwnSc
