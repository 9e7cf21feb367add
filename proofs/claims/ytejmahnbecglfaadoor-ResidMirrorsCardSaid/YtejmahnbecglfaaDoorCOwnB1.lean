/- Matrices, walked: a new one. -/
import Derived.Test.YtejmahnbecglfaaDoorCA

set_option linter.unusedVariables false
set_option linter.unusedSimpArgs false
namespace Go.Proofs.YtejmahnbecglfaaDoor.OwnA
open Go.RowKit Go.Proofs.YtejmahnbecglfaaDoorW.PrintWords Go.Proofs.YtejmahnbecglfaaDoorW.PrintLast Go.Proofs.YtejmahnbecglfaaDoorW.PrintMore
set_option maxHeartbeats 800000 in
set_option maxRecDepth 100000 in
theorem new_calls (r c : Int) (m : Nat) (w : World) (hr : sideB r = true) (hc : sideB c = true) (hm : r * c = m) :
    Calls Tryd.prog 62 #[.int .i64 r, .int .i64 c] w fun e w' => ∃ v, e = .returned (.tuple #[.agg #[.int .i64 r, .int .i64 c, v], .int .i64 0]) ∧ Kd.R (Kd.int .u64) 38 w' w.heap.size (fun _ => True) v (List.replicate m 0) ∧ Below w.heap.size w w' := by
  have r1 := (sideB_iff.1 hr).1
  have r2 := (sideB_iff.1 hr).2
  have c1 := (sideB_iff.1 hc).1
  have c2 := (sideB_iff.1 hc).2
  have m0 : 0 < r * c := Int.mul_pos (by omega) (by omega)
  have m1 : r * c ≤ 4096 := by
    have := Int.mul_le_mul r2 c2 (by omega) (by omega)
    omega
  have HR := Aside0.mk hr
  have HC := Aside0.mk hc
  have HM := Aside0.mk hm
  have HB := Aside0.mk (Below.refl w.heap.size w)
  have S1 := fun wx => side_calls r wx
  have S2 := fun wx => side_calls c wx
  rw [hr] at S1
  rw [hc] at S2
  have HS1 := Aside0.mk S1
  have HS2 := Aside0.mk S2
  clear S1 S2 hr hc
  generalize hp : r * c = p at *
  subst hm
  go_enter Tryd.func62, Tryd.ntmps62
  go_wp2_with fail
  refine (HS1.out _).mono ?_
  rintro e w1 ⟨rfl, hw1⟩
  subst hw1
  go_wp2_with fail
  refine (HS2.out _).mono ?_
  rintro e w1 ⟨rfl, hw1⟩
  subst hw1
  have HY := Aside0.mk (World.alloc_heap_new w (.cells #[.int .i64 0, .int .i64 0, .slice none 0 0] 24 (0, 0)))
  generalize hwL : World.alloc _ _ = wL at *
  clear HB
  have HB := Aside0.mk (show Below w.heap.size w wL by rw [← hwL]; exact (Below.refl w.heap.size w).alloc (Nat.le_refl _) _)
  clear hwL
  have HGO : ∀ (W : World) (g cap : Nat), W.heap[w.heap.size]? = some (.cells #[.int .i64 0, .int .i64 0, .slice none 0 0] 24 (0, 0)) → Kd.R (Kd.int .u64) 38 W wL.heap.size (fun _ => True) (.slice (some ⟨g, 0, none⟩) m cap) (List.replicate m 0) → Below w.heap.size w W →
      ∀ T : Array Value, T.getD 4 undef = .pointer (some ⟨w.heap.size, 0, none⟩) → T.getD 5 undef = .int .i64 0 → bodyPost Tryd.prog Tryd.f62 (fun e w' => ∃ v, e = .returned (.tuple #[.agg #[.int .i64 r, .int .i64 c, v], .int .i64 0]) ∧ Kd.R (Kd.int .u64) 38 w' w.heap.size (fun _ => True) v (List.replicate m 0) ∧ Below w.heap.size w w') .ret { tmps := T, defers := [] } (((W.setCell ⟨w.heap.size, 0, none⟩ (.int .i64 r)).setCell ⟨w.heap.size, 1, none⟩ (.int .i64 c)).setCell ⟨w.heap.size, 2, none⟩ (.slice (some ⟨g, 0, none⟩) m cap)) := by
    intro W g cap h1 h2 h3 T h4 h5
    have p0 := blk_put h1 0 (.int .i64 r) rfl
    have p1 := blk_put (cs := #[.int .i64 r, .int .i64 0, .slice none 0 0]) p0 1 (.int .i64 c) rfl
    have p2 := blk_put (cs := #[.int .i64 r, .int .i64 c, .slice none 0 0]) p1 2 (.slice (some ⟨g, 0, none⟩) m cap) rfl
    have q0 := Kd.R_set h2 h1 (fun q hq => by revert q; decide) 0 (.int .i64 r)
    have q1 := Kd.R_set q0 p0 (fun q hq => by revert q; decide) 1 (.int .i64 c)
    have q2 := Kd.R_set q1 p1 (fun q hq => by revert q; decide) 2 (.slice (some ⟨g, 0, none⟩) m cap)
    refine bodyPost_ret (results_ct rfl T _ w.heap.size 24 _ (0, 0) _ h4 p2 Tryd.underlying24 rfl (by kernel_rfl)) rfl ?_
    exact ⟨_, by rw [h5]; rfl, Kd.R_lower q2 (below_size HB.out), below_set (below_set (below_set h3 (Nat.le_refl _)) (Nat.le_refl _)) (Nat.le_refl _)⟩
  have HG := Aside0.mk HGO
  clear HGO
  go_wp2_with (first | ((with_reducible refine gate_dst (N := 20) rfl ?_); refine Kd.R_make (w0 := wL) (Kd.int .u64) wL.heap.size 38 rfl (N := 20) rfl 22 _ _ rfl (m : Int) ?hx1 ?hx2 Tryd.underlying22 (.int .u64 0) 8 info38 rfl (by decide) (by omega) 0 (ok := fun _ => True) (okp := fun _ => True) rfl (fun _ hk => hk) trivial (by omega) (by omega) (Below.refl _ _) (Nat.le_refl _) ?_; (case hx1 => first | rfl | (simp; done) | skip); (case hx2 => first | rfl | (simp; done) | skip); intro v0 w1 ho hb hg_ hnew_; rw [show ((m : Int)).toNat = m by omega] at ho; obtain ⟨g, cap, rfl, hg, _, _⟩ := Kd.R_form ho (by simp; omega); (try rw [show (List.replicate m (0 : Int)).length = m by simp] at ho); (try rw [show (List.replicate m (0 : Int)).length = m by simp]); have HO := Aside0.mk ho; have HB1 := Aside0.mk hb; have h1 := (hb.block _ (blk_lt HY.out)).trans HY.out; have HY1 := Aside0.mk h1; obtain ⟨a0, a1, a2, f0, f1, f2⟩ := (show w1.cell? ⟨w.heap.size, 0, none⟩ = some (.int .i64 0) ∧ w1.cell? ⟨w.heap.size, 1, none⟩ = some (.int .i64 0) ∧ w1.cell? ⟨w.heap.size, 2, none⟩ = some (.slice none 0 0) ∧ w1.frozen? ⟨w.heap.size, 0, none⟩ = false ∧ w1.frozen? ⟨w.heap.size, 1, none⟩ = false ∧ w1.frozen? ⟨w.heap.size, 2, none⟩ = false from ⟨blk_cell h1 0, blk_cell h1 1, blk_cell h1 2, blk_frozen h1 0, blk_frozen h1 1, blk_frozen h1 2⟩); clear h1 ho hb hg_ hnew_ hg))
  exact HG.out _ _ _ HY1.out HO.out (below_step HB.out HB1.out) _ rfl rfl
end Go.Proofs.YtejmahnbecglfaaDoor.OwnA
