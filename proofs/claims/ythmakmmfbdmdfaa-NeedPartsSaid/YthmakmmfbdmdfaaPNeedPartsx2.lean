-- PRINTED BY print.sh 35421559b90ae4d0a3588c463048766b98c2df88dd9212a6774a882060cdf62d: not written by this session
import Derived.Test.YthmakmmfbdmdfaaPNeedPartsx0
import Derived.Test.YthmakmmfbdmdfaaPNeedPartsx1
namespace Go.Proofs.Ythmakmmfbdmdfaa.PNeedParts
open Go.RowKit Go.Proofs.YthmakmmfbdmdfaaW.PrintWords Go.Proofs.YthmakmmfbdmdfaaW.PrintLast Go.Proofs.YthmakmmfbdmdfaaW.PrintMore
attribute [local go_sem] max2_int min2_int max_two min_two max_three min_three max_four min_four   -- for this text's walks alone
set_option linter.unusedVariables false
set_option linter.unusedSimpArgs false

/-! ### need_chol: function 54 -/
def need_chol.f : Nat → Int → Int → Option (Int)
  | 0, _, _ => none
  | k + 1, a0, a1 => if a0 = 1 then (some 0) else ((need_chol.f k (wrap64 (Int.tdiv a0 2)) a1).bind fun t132 => ((need_tri.f k (wrap64 (Int.tdiv a0 2)) (wrap64 (a0 - (wrap64 (Int.tdiv a0 2)))) a1).bind fun t133 => ((need_product.f k (wrap64 (a0 - (wrap64 (Int.tdiv a0 2)))) (wrap64 (Int.tdiv a0 2)) (wrap64 (a0 - (wrap64 (Int.tdiv a0 2)))) a1).bind fun t134 => ((need_chol.f k (wrap64 (a0 - (wrap64 (Int.tdiv a0 2)))) a1).bind fun t135 => (some (mx (mx (mx t132 t133) t134) t135))))))
theorem need_chol.mono_l : ∀ k, (∀ y0 y1, LeO (need_chol.f k y0 y1) (need_chol.f (k + 1) y0 y1))
  | 0 => fun _ _ r h => by simp [need_chol.f] at h
  | k + 1 => by
    have ih0 := need_chol.mono_l k
    · intro y0 y1
      unfold need_chol.f
      repeat' first
      | (with_reducible exact ih0 _ _)
      | (with_reducible exact need_product.mono _ _ _ _ _)
      | (with_reducible exact need_tri.mono _ _ _ _)
      | (with_reducible exact LeO.refl _)
      | (with_reducible exact LeO.none _)
      | (with_reducible refine LeO.ite ?_ ?_)
      | (with_reducible refine LeO.bind ?_ (fun _ => ?_))
      | exact ih0 _ _
      | exact need_product.mono _ _ _ _ _
      | exact need_tri.mono _ _ _ _
      | exact LeO.none _
      | refine LeO.ite ?_ ?_
      | refine LeO.bind ?_ (fun _ => ?_)
theorem need_chol.mono : ∀ a0 a1 k, LeO (need_chol.f k a0 a1) (need_chol.f (k + 1) a0 a1) := by
  intro a0 a1 k
  have ih0 := need_chol.mono_l k
  exact ih0 a0 a1
set_option maxHeartbeats 8000000 in
set_option maxRecDepth 100000 in
theorem need_chol.calls (k : Nat) : ∀ (a0 : Int) (a1 : Int) (r : Int) (w : World) (h : need_chol.f k a0 a1 = some r),
    Calls Try.prog 54 #[.int .i64 a0, .int .i64 a1] w fun e w' => e = .returned (.int .i64 r) ∧ Below w.heap.size w w' := by
  induction k using Nat.strongRecOn with
  | _ k ih =>
  intro a0 a1 r w h
  cases k with
  | zero => exact absurd h (by simp [need_chol.f])
  | succ k =>
  simp only [need_chol.f] at h
  have HB := Aside0.mk (Below.refl w.heap.size w)
  have H : (if a0 = 1 then (some 0) else ((need_chol.f k (wrap64 (Int.tdiv a0 2)) a1).bind fun t132 => ((need_tri.f k (wrap64 (Int.tdiv a0 2)) (wrap64 (a0 - (wrap64 (Int.tdiv a0 2)))) a1).bind fun t133 => ((need_product.f k (wrap64 (a0 - (wrap64 (Int.tdiv a0 2)))) (wrap64 (Int.tdiv a0 2)) (wrap64 (a0 - (wrap64 (Int.tdiv a0 2)))) a1).bind fun t134 => ((need_chol.f k (wrap64 (a0 - (wrap64 (Int.tdiv a0 2)))) a1).bind fun t135 => (some (mx (mx (mx t132 t133) t134) t135))))))) = some r := h
  clear h
  by_cases c3 : a0 = 1
  · rw [if_pos c3] at H
    have c3b0 : (a0 == 1) = true := beq_iff_eq.mpr c3
    have c3b1 : (a0 != 1) = false := bne_eq_false_iff_eq.mpr c3
    clear c3
    obtain rfl := Option.some.inj H
    go_enter Try.func54, Try.ntmps54
    go_wp2
    go_ret
    exact ⟨by first | rfl | (simp [errW_none, errW_some] <;> rfl) | (simp [*, errW_none, errW_some] <;> rfl), by repeat (first | (with_reducible first | exact HB.out | apply below_alloc | apply pw_below_drewN | apply below_drew1) | exact HB.out)⟩
  · rw [if_neg c3] at H
    have c3b0 : (a0 == 1) = false := beq_eq_false_iff_ne.mpr c3
    have c3b1 : (a0 != 1) = true := bne_iff_ne.mpr c3
    replace H := Option.bind_eq_some_iff.mp H
    obtain ⟨t132, A40, H⟩ := H
    replace H : ((need_tri.f k (wrap64 (Int.tdiv a0 2)) (wrap64 (a0 - (wrap64 (Int.tdiv a0 2)))) a1).bind fun t133 => ((need_product.f k (wrap64 (a0 - (wrap64 (Int.tdiv a0 2)))) (wrap64 (Int.tdiv a0 2)) (wrap64 (a0 - (wrap64 (Int.tdiv a0 2)))) a1).bind fun t134 => ((need_chol.f k (wrap64 (a0 - (wrap64 (Int.tdiv a0 2)))) a1).bind fun t135 => (some (mx (mx (mx t132 t133) t134) t135))))) = some r := H
    have A4 := Aside0.mk A40
    clear A40
    replace H := Option.bind_eq_some_iff.mp H
    obtain ⟨t133, A50, H⟩ := H
    replace H : ((need_product.f k (wrap64 (a0 - (wrap64 (Int.tdiv a0 2)))) (wrap64 (Int.tdiv a0 2)) (wrap64 (a0 - (wrap64 (Int.tdiv a0 2)))) a1).bind fun t134 => ((need_chol.f k (wrap64 (a0 - (wrap64 (Int.tdiv a0 2)))) a1).bind fun t135 => (some (mx (mx (mx t132 t133) t134) t135)))) = some r := H
    have A5 := Aside0.mk A50
    clear A50
    replace H := Option.bind_eq_some_iff.mp H
    obtain ⟨t134, A60, H⟩ := H
    replace H : ((need_chol.f k (wrap64 (a0 - (wrap64 (Int.tdiv a0 2)))) a1).bind fun t135 => (some (mx (mx (mx t132 t133) t134) t135))) = some r := H
    have A6 := Aside0.mk A60
    clear A60
    replace H := Option.bind_eq_some_iff.mp H
    obtain ⟨t135, A70, H⟩ := H
    replace H : (some (mx (mx (mx t132 t133) t134) t135)) = some r := H
    have A7 := Aside0.mk A70
    clear A70
    obtain ⟨ji8, hji8⟩ : ∃ j_ : Int, (mx t132 t133) = j_ := ⟨_, rfl⟩
    replace H : (some (mx (mx (ji8) t134) t135)) = some r := by first | (rw [hji8] at H; exact H) | (simp only [hji8] at H ⊢; exact H)
    (try rw [hji8] at A4)
    (try rw [hji8] at A5)
    (try rw [hji8] at A6)
    (try rw [hji8] at A7)
    have hji8_ : (if t132 < t133 then t133 else t132) = ji8 := hji8
    obtain ⟨ji9, hji9⟩ : ∃ j_ : Int, (mx (ji8) t134) = j_ := ⟨_, rfl⟩
    replace H : (some (mx (ji9) t135)) = some r := by first | (rw [hji9] at H; exact H) | (simp only [hji9] at H ⊢; exact H)
    (try rw [hji9] at A4)
    (try rw [hji9] at A5)
    (try rw [hji9] at A6)
    (try rw [hji9] at A7)
    have hji9_ : (if (ji8) < t134 then t134 else (ji8)) = ji9 := hji9
    obtain ⟨ji10, hji10⟩ : ∃ j_ : Int, (mx (ji9) t135) = j_ := ⟨_, rfl⟩
    replace H : (some ji10) = some r := by first | (rw [hji10] at H; exact H) | (simp only [hji10] at H ⊢; exact H)
    (try rw [hji10] at A4)
    (try rw [hji10] at A5)
    (try rw [hji10] at A6)
    (try rw [hji10] at A7)
    have hji10_ : (if (ji9) < t135 then t135 else (ji9)) = ji10 := hji10
    obtain rfl := Option.some.inj H
    go_enter Try.func54, Try.ntmps54
    go_wp2_with (first | ((with_reducible refine gate_callee (f := 54) rfl ?_); refine goesL_ (some 12) rfl rfl Try.func54 (by kernel_rfl) rfl #[.int .i64 (wrap64 (Int.tdiv a0 2)), .int .i64 a1] rfl (by (try simp only [List.map_toArray, List.map_cons, List.map_nil]); first | done | rfl | (simp only [List.length_drop, List.length_take]; rfl)) ?_; (with_reducible refine (ih k (by omega) (wrap64 (Int.tdiv a0 2)) a1 t132 _ A4.out).mono ?_); rintro e w11 ⟨rfl, hb⟩; refine ⟨_, rfl, ?_⟩; have n0_ := Aside0.mk (below_step (by repeat (first | (with_reducible first | exact HB.out | apply below_alloc | apply pw_below_drewN | apply below_drew1) | exact HB.out)) hb); clear HB; have HB := n0_; clear n0_; (try clear hb); (try clear hb2); (try clear hk); (try clear hi)) | ((with_reducible refine gate_callee (f := 62) rfl ?_); refine goesL_ (some 18) rfl rfl Try.func62 (by kernel_rfl) rfl #[.int .i64 (wrap64 (Int.tdiv a0 2)), .int .i64 (wrap64 (a0 - (wrap64 (Int.tdiv a0 2)))), .int .i64 a1] rfl (by (try simp only [List.map_toArray, List.map_cons, List.map_nil]); first | done | rfl | (simp only [List.length_drop, List.length_take]; rfl)) ?_; (with_reducible refine (need_tri.calls k (wrap64 (Int.tdiv a0 2)) (wrap64 (a0 - (wrap64 (Int.tdiv a0 2)))) a1 t133 _ A5.out).mono ?_); rintro e w12 ⟨rfl, hb⟩; refine ⟨_, rfl, ?_⟩; have n0_ := Aside0.mk (below_step (by repeat (first | (with_reducible first | exact HB.out | apply below_alloc | apply pw_below_drewN | apply below_drew1) | exact HB.out)) hb); clear HB; have HB := n0_; clear n0_; (try clear hb); (try clear hb2); (try clear hk); (try clear hi)) | ((with_reducible refine gate_callee (f := 73) rfl ?_); refine goesL_ (some 27) rfl rfl Try.func73 (by kernel_rfl) rfl #[.int .i64 (wrap64 (a0 - (wrap64 (Int.tdiv a0 2)))), .int .i64 (wrap64 (Int.tdiv a0 2)), .int .i64 (wrap64 (a0 - (wrap64 (Int.tdiv a0 2)))), .int .i64 a1] rfl (by (try simp only [List.map_toArray, List.map_cons, List.map_nil]); first | done | rfl | (simp only [List.length_drop, List.length_take]; rfl)) ?_; (with_reducible refine (need_product.calls k (wrap64 (a0 - (wrap64 (Int.tdiv a0 2)))) (wrap64 (Int.tdiv a0 2)) (wrap64 (a0 - (wrap64 (Int.tdiv a0 2)))) a1 t134 _ A6.out).mono ?_); rintro e w13 ⟨rfl, hb⟩; refine ⟨_, rfl, ?_⟩; have n0_ := Aside0.mk (below_step (by repeat (first | (with_reducible first | exact HB.out | apply below_alloc | apply pw_below_drewN | apply below_drew1) | exact HB.out)) hb); clear HB; have HB := n0_; clear n0_; (try clear hb); (try clear hb2); (try clear hk); (try clear hi)) | ((with_reducible refine gate_callee (f := 54) rfl ?_); refine goesL_ (some 32) rfl rfl Try.func54 (by kernel_rfl) rfl #[.int .i64 (wrap64 (a0 - (wrap64 (Int.tdiv a0 2)))), .int .i64 a1] rfl (by (try simp only [List.map_toArray, List.map_cons, List.map_nil]); first | done | rfl | (simp only [List.length_drop, List.length_take]; rfl)) ?_; (with_reducible refine (ih k (by omega) (wrap64 (a0 - (wrap64 (Int.tdiv a0 2)))) a1 t135 _ A7.out).mono ?_); rintro e w14 ⟨rfl, hb⟩; refine ⟨_, rfl, ?_⟩; have n0_ := Aside0.mk (below_step (by repeat (first | (with_reducible first | exact HB.out | apply below_alloc | apply pw_below_drewN | apply below_drew1) | exact HB.out)) hb); clear HB; have HB := n0_; clear n0_; (try clear hb); (try clear hb2); (try clear hk); (try clear hi)))
    go_ret
    exact ⟨by first | rfl | (simp [errW_none, errW_some] <;> rfl) | (simp only [← hji8, ← hji9, ← hji10]; first | rfl | (simp [errW_none, errW_some] <;> rfl)) | (simp [*, errW_none, errW_some] <;> rfl), by repeat (first | (with_reducible first | exact HB.out | apply below_alloc | apply pw_below_drewN | apply below_drew1) | exact HB.out)⟩

/-! ### need_Chol: function 26 -/
def need_Chol.f (k : Nat) (a0 : Int) (a1 : Int) : Option (Int × Int) := (need_odd.f k a1 (([a0] : List Int))).bind fun t139 => (if t139 = true then (some (0, 4)) else ((need_chol.f k a0 a1).bind fun t140 => (some (t140, 0))))
theorem need_Chol.mono : ∀ a0 a1 k, LeO (need_Chol.f k a0 a1) (need_Chol.f (k + 1) a0 a1) := by
  intro a0 a1 k
  unfold need_Chol.f
  repeat' first
      | (with_reducible exact need_chol.mono _ _ _)
      | (with_reducible exact need_odd.mono _ _ _)
      | (with_reducible exact LeO.refl _)
      | (with_reducible exact LeO.none _)
      | (with_reducible refine LeO.ite ?_ ?_)
      | (with_reducible refine LeO.bind ?_ (fun _ => ?_))
      | exact need_chol.mono _ _ _
      | exact need_odd.mono _ _ _
      | exact LeO.none _
      | refine LeO.ite ?_ ?_
      | refine LeO.bind ?_ (fun _ => ?_)
set_option maxHeartbeats 8000000 in
set_option maxRecDepth 100000 in
theorem need_Chol.calls (k : Nat) (a0 : Int) (a1 : Int) (r1 : Int) (r2 : Int) (w : World) (h : need_Chol.f k a0 a1 = some (r1, r2)) :
    Calls Try.prog 26 #[.int .i64 a0, .int .i64 a1] w fun e w' => e = .returned (.tuple #[.int .i64 r1, .int .i64 r2]) ∧ Below w.heap.size w w' := by
  have HB := Aside0.mk (Below.refl w.heap.size w)
  have H : ((need_odd.f k a1 (([a0] : List Int))).bind fun t139 => (if t139 = true then (some (0, 4)) else ((need_chol.f k a0 a1).bind fun t140 => (some (t140, 0))))) = some (r1, r2) := h
  clear h
  obtain ⟨y136, hy136⟩ : ∃ y_ : List Int, y_ = (([a0] : List Int)) := ⟨_, rfl⟩
  replace H : ((need_odd.f k a1 y136).bind fun t139 => (if t139 = true then (some (0, 4)) else ((need_chol.f k a0 a1).bind fun t140 => (some (t140, 0))))) = some (r1, r2) := by first | (rw [hy136]; with_reducible exact H) | (have H2_ := (Option.bind_some _ _).symm.trans H; rw [hy136]; with_reducible exact H2_) | (have H2_ := (Option.bind_some _ _).symm.trans H; with_reducible exact H2_) | with_reducible exact H | (rw [hy136]; exact H) | exact H
  have Ny136 := Aside0.mk hy136
  clear hy136
  replace H := Option.bind_eq_some_iff.mp H
  obtain ⟨t139, A30, H⟩ := H
  replace H : (if t139 = true then (some (0, 4)) else ((need_chol.f k a0 a1).bind fun t140 => (some (t140, 0)))) = some (r1, r2) := H
  have A3 := Aside0.mk A30
  clear A30
  by_cases c4 : t139 = true
  · subst c4
    have H1 : (some (0, 4)) = some (r1, r2) := by rw [if_pos rfl] at H; exact H
    clear H
    have H := H1
    clear H1
    simp only [Option.some.injEq, Prod.mk.injEq] at H
    obtain ⟨rfl, rfl⟩ := H
    go_enter Try.func26, Try.ntmps26
    go_wp2_with (first | ((with_reducible refine gate_dst (N := 8) rfl ?_); refine Kd.R_lit (Kd.int .i64) _ 3 ?hg (N := 8) ?hd (xs := ([a0] : List Int)) (inner := [.int .i64 a0]) (ok := fun _ => True) (okp := fun _ => True) ?hr ?hp (fun _ hk => hk) trivial (Below.refl _ _) (Nat.le_refl _) (by simp) ?_; (case hd => rfl); (case hg => rfl); (case hr => first | (go_simp; done) | (go_simp; rfl)); (case hp => exact (Reps.one (show Kd.M (Kd.int .i64) _ _ _ a0 [.int .i64 a0] from rfl) (Reps.none _ _))); intro v137 w5 ho6 hb hg_ hnew_; clear hg_ hnew_; (first | rw [← Ny136.out] at ho6 | (simp only [Int.reduceToNat] at ho6; rw [← Ny136.out] at ho6)); have n0_ := Aside0.mk (Kd.R_lower ho6 (below_size (by repeat (first | (with_reducible first | exact HB.out | apply below_alloc | apply pw_below_drewN | apply below_drew1) | exact HB.out)))); have n1_ := Aside0.mk (below_step (by repeat (first | (with_reducible first | exact HB.out | apply below_alloc | apply pw_below_drewN | apply below_drew1) | exact HB.out)) hb); clear HB; have HO138 := n0_; have HB := n1_; clear n0_ n1_; clear hb ho6; obtain ⟨Ao7, co7, eo7⟩ := Kd.R_slice HO138.out; subst eo7) | ((with_reducible refine gate_callee (f := 48) rfl ?_); refine goesL_ (some 9) rfl rfl Try.func48 (by kernel_rfl) rfl #[.int .i64 a1, .slice Ao7 y136.length co7] rfl (by (try simp only [List.map_toArray, List.map_cons, List.map_nil]); first | done | rfl | (simp only [List.length_drop, List.length_take]; rfl)) ?_; (with_reducible refine (need_odd.calls k a1 _ _ y136 true _ ?side1 ?side2 A3.out).mono ?_); (case side1 => repeat (first | exact (Kd.R_reads' HO138.out).2.2 | (with_reducible refine Kd.C_alloc ?_ _) | (with_reducible refine Kd.C_drewN ?_ _) | (with_reducible refine Kd.C_drew ?_))); (case side2 => exact (Kd.R_reads' HO138.out).2.1); rintro e w' ⟨rfl, ⟨nd, rfl⟩⟩; refine ⟨_, rfl, ?_⟩))
    go_ret2
    exact ⟨by first | rfl | (simp [errW_none, errW_some] <;> rfl) | (simp [*, errW_none, errW_some] <;> rfl), by repeat (first | (with_reducible first | exact HB.out | apply below_alloc | apply pw_below_drewN | apply below_drew1) | exact HB.out)⟩
  · replace c4 := Bool.eq_false_iff.mpr c4
    subst c4
    have H1 : ((need_chol.f k a0 a1).bind fun t140 => (some (t140, 0))) = some (r1, r2) := by rw [if_neg (show ¬ (false = true) by decide)] at H; exact H
    clear H
    have H := H1
    clear H1
    replace H := Option.bind_eq_some_iff.mp H
    obtain ⟨t140, A80, H⟩ := H
    replace H : (some (t140, 0)) = some (r1, r2) := H
    have A8 := Aside0.mk A80
    clear A80
    simp only [Option.some.injEq, Prod.mk.injEq] at H
    obtain ⟨rfl, rfl⟩ := H
    go_enter Try.func26, Try.ntmps26
    go_wp2_with (first | ((with_reducible refine gate_dst (N := 8) rfl ?_); refine Kd.R_lit (Kd.int .i64) _ 3 ?hg (N := 8) ?hd (xs := ([a0] : List Int)) (inner := [.int .i64 a0]) (ok := fun _ => True) (okp := fun _ => True) ?hr ?hp (fun _ hk => hk) trivial (Below.refl _ _) (Nat.le_refl _) (by simp) ?_; (case hd => rfl); (case hg => rfl); (case hr => first | (go_simp; done) | (go_simp; rfl)); (case hp => exact (Reps.one (show Kd.M (Kd.int .i64) _ _ _ a0 [.int .i64 a0] from rfl) (Reps.none _ _))); intro v137 w9 ho10 hb hg_ hnew_; clear hg_ hnew_; (first | rw [← Ny136.out] at ho10 | (simp only [Int.reduceToNat] at ho10; rw [← Ny136.out] at ho10)); have n0_ := Aside0.mk (Kd.R_lower ho10 (below_size (by repeat (first | (with_reducible first | exact HB.out | apply below_alloc | apply pw_below_drewN | apply below_drew1) | exact HB.out)))); have n1_ := Aside0.mk (below_step (by repeat (first | (with_reducible first | exact HB.out | apply below_alloc | apply pw_below_drewN | apply below_drew1) | exact HB.out)) hb); clear HB; have HO138 := n0_; have HB := n1_; clear n0_ n1_; clear hb ho10; obtain ⟨Ao11, co11, eo11⟩ := Kd.R_slice HO138.out; subst eo11) | ((with_reducible refine gate_callee (f := 48) rfl ?_); refine goesL_ (some 9) rfl rfl Try.func48 (by kernel_rfl) rfl #[.int .i64 a1, .slice Ao11 y136.length co11] rfl (by (try simp only [List.map_toArray, List.map_cons, List.map_nil]); first | done | rfl | (simp only [List.length_drop, List.length_take]; rfl)) ?_; (with_reducible refine (need_odd.calls k a1 _ _ y136 false _ ?side1 ?side2 A3.out).mono ?_); (case side1 => repeat (first | exact (Kd.R_reads' HO138.out).2.2 | (with_reducible refine Kd.C_alloc ?_ _) | (with_reducible refine Kd.C_drewN ?_ _) | (with_reducible refine Kd.C_drew ?_))); (case side2 => exact (Kd.R_reads' HO138.out).2.1); rintro e w' ⟨rfl, ⟨nd, rfl⟩⟩; refine ⟨_, rfl, ?_⟩) | ((with_reducible refine gate_callee (f := 54) rfl ?_); refine goesL_ (some 12) rfl rfl Try.func54 (by kernel_rfl) rfl #[.int .i64 a0, .int .i64 a1] rfl (by (try simp only [List.map_toArray, List.map_cons, List.map_nil]); first | done | rfl | (simp only [List.length_drop, List.length_take]; rfl)) ?_; (with_reducible refine (need_chol.calls k a0 a1 t140 _ A8.out).mono ?_); rintro e w12 ⟨rfl, hb⟩; refine ⟨_, rfl, ?_⟩; have n0_ := Aside0.mk (Kd.R_below (by (with_reducible repeat (first | apply Kd.R_alloc | apply Kd.R_drewN | apply Kd.R_drew)); exact HO138.out) hb); have n1_ := Aside0.mk (below_step (by repeat (first | (with_reducible first | exact HB.out | apply below_alloc | apply pw_below_drewN | apply below_drew1) | exact HB.out)) hb); clear HO138; clear HB; have HO138 := n0_; have HB := n1_; clear n0_ n1_; (try clear hb); (try clear hb2); (try clear hk); (try clear hi)))
    go_ret2
    exact ⟨by first | rfl | (simp [errW_none, errW_some] <;> rfl) | (simp [*, errW_none, errW_some] <;> rfl), by repeat (first | (with_reducible first | exact HB.out | apply below_alloc | apply pw_below_drewN | apply below_drew1) | exact HB.out)⟩

/-! ### vernierlaw27_NeedParts: function 7 -/
def vernierlaw27_NeedParts.f (k : Nat) (a0 : Int) (a1 : Int) (a2 : Int) : Option (Bool) := (vernierlaw27_alive.f k).bind fun t141 => (if t141 = true then ((need_Lu.f k (mx (wrap64 (1 + (Int.tmod (wrap64 (a0)) 40))) (wrap64 (1 + (Int.tmod (wrap64 (a1)) 40)))) (wrap64 (1 + (Int.tmod (wrap64 (a1)) 40))) (wrap64 (1 + (Int.tmod (wrap64 (a2)) 20)))).bind fun bt142 => ((need_Product.f k (mx (wrap64 (1 + (Int.tmod (wrap64 (a0)) 40))) (wrap64 (1 + (Int.tmod (wrap64 (a1)) 40)))) (wrap64 (1 + (Int.tmod (wrap64 (a1)) 40))) (wrap64 (1 + (Int.tmod (wrap64 (a1)) 40))) (wrap64 (1 + (Int.tmod (wrap64 (a2)) 20)))).bind fun bt144 => ((need_Chol.f k (wrap64 (1 + (Int.tmod (wrap64 (a1)) 40))) (wrap64 (1 + (Int.tmod (wrap64 (a2)) 20)))).bind fun bt146 => ((need_Product.f k (wrap64 (1 + (Int.tmod (wrap64 (a1)) 40))) (wrap64 (1 + (Int.tmod (wrap64 (a1)) 40))) (wrap64 (1 + (Int.tmod (wrap64 (a1)) 40))) (wrap64 (1 + (Int.tmod (wrap64 (a2)) 20)))).bind fun bt148 => (if bt142.2 = 0 then (if bt144.2 = 0 then (if bt146.2 = 0 then (if bt148.2 = 0 then (if bt142.1 ≤ bt144.1 then (some (decide (bt146.1 ≤ bt148.1))) else (some false)) else (some false)) else (some false)) else (some false)) else (some false)))))) else (some false))
theorem vernierlaw27_NeedParts.mono : ∀ a0 a1 a2 k, LeO (vernierlaw27_NeedParts.f k a0 a1 a2) (vernierlaw27_NeedParts.f (k + 1) a0 a1 a2) := by
  intro a0 a1 a2 k
  unfold vernierlaw27_NeedParts.f
  repeat' first
      | (with_reducible exact need_Chol.mono _ _ _)
      | (with_reducible exact need_Lu.mono _ _ _ _)
      | (with_reducible exact need_Product.mono _ _ _ _ _)
      | (with_reducible exact vernierlaw27_alive.mono _)
      | (with_reducible exact LeO.refl _)
      | (with_reducible exact LeO.none _)
      | (with_reducible refine LeO.ite ?_ ?_)
      | (with_reducible refine LeO.bind ?_ (fun _ => ?_))
      | exact need_Chol.mono _ _ _
      | exact need_Lu.mono _ _ _ _
      | exact need_Product.mono _ _ _ _ _
      | exact vernierlaw27_alive.mono _
      | exact LeO.none _
      | refine LeO.ite ?_ ?_
      | refine LeO.bind ?_ (fun _ => ?_)
set_option maxHeartbeats 8000000 in
set_option maxRecDepth 100000 in
theorem vernierlaw27_NeedParts.calls (k : Nat) (a0 : Int) (a1 : Int) (a2 : Int) (r : Bool) (w : World) (h : vernierlaw27_NeedParts.f k a0 a1 a2 = some r) :
    Calls Try.prog 7 #[.int .u8 a0, .int .u8 a1, .int .u8 a2] w fun e w' => e = .returned (.bool r) ∧ Below w.heap.size w w' := by
  have HB := Aside0.mk (Below.refl w.heap.size w)
  have H : ((vernierlaw27_alive.f k).bind fun t141 => (if t141 = true then ((need_Lu.f k (mx (wrap64 (1 + (Int.tmod (wrap64 (a0)) 40))) (wrap64 (1 + (Int.tmod (wrap64 (a1)) 40)))) (wrap64 (1 + (Int.tmod (wrap64 (a1)) 40))) (wrap64 (1 + (Int.tmod (wrap64 (a2)) 20)))).bind fun bt142 => ((need_Product.f k (mx (wrap64 (1 + (Int.tmod (wrap64 (a0)) 40))) (wrap64 (1 + (Int.tmod (wrap64 (a1)) 40)))) (wrap64 (1 + (Int.tmod (wrap64 (a1)) 40))) (wrap64 (1 + (Int.tmod (wrap64 (a1)) 40))) (wrap64 (1 + (Int.tmod (wrap64 (a2)) 20)))).bind fun bt144 => ((need_Chol.f k (wrap64 (1 + (Int.tmod (wrap64 (a1)) 40))) (wrap64 (1 + (Int.tmod (wrap64 (a2)) 20)))).bind fun bt146 => ((need_Product.f k (wrap64 (1 + (Int.tmod (wrap64 (a1)) 40))) (wrap64 (1 + (Int.tmod (wrap64 (a1)) 40))) (wrap64 (1 + (Int.tmod (wrap64 (a1)) 40))) (wrap64 (1 + (Int.tmod (wrap64 (a2)) 20)))).bind fun bt148 => (if bt142.2 = 0 then (if bt144.2 = 0 then (if bt146.2 = 0 then (if bt148.2 = 0 then (if bt142.1 ≤ bt144.1 then (some (decide (bt146.1 ≤ bt148.1))) else (some false)) else (some false)) else (some false)) else (some false)) else (some false)))))) else (some false))) = some r := h
  clear h
  replace H := Option.bind_eq_some_iff.mp H
  obtain ⟨t141, A40, H⟩ := H
  replace H : (if t141 = true then ((need_Lu.f k (mx (wrap64 (1 + (Int.tmod (wrap64 (a0)) 40))) (wrap64 (1 + (Int.tmod (wrap64 (a1)) 40)))) (wrap64 (1 + (Int.tmod (wrap64 (a1)) 40))) (wrap64 (1 + (Int.tmod (wrap64 (a2)) 20)))).bind fun bt142 => ((need_Product.f k (mx (wrap64 (1 + (Int.tmod (wrap64 (a0)) 40))) (wrap64 (1 + (Int.tmod (wrap64 (a1)) 40)))) (wrap64 (1 + (Int.tmod (wrap64 (a1)) 40))) (wrap64 (1 + (Int.tmod (wrap64 (a1)) 40))) (wrap64 (1 + (Int.tmod (wrap64 (a2)) 20)))).bind fun bt144 => ((need_Chol.f k (wrap64 (1 + (Int.tmod (wrap64 (a1)) 40))) (wrap64 (1 + (Int.tmod (wrap64 (a2)) 20)))).bind fun bt146 => ((need_Product.f k (wrap64 (1 + (Int.tmod (wrap64 (a1)) 40))) (wrap64 (1 + (Int.tmod (wrap64 (a1)) 40))) (wrap64 (1 + (Int.tmod (wrap64 (a1)) 40))) (wrap64 (1 + (Int.tmod (wrap64 (a2)) 20)))).bind fun bt148 => (if bt142.2 = 0 then (if bt144.2 = 0 then (if bt146.2 = 0 then (if bt148.2 = 0 then (if bt142.1 ≤ bt144.1 then (some (decide (bt146.1 ≤ bt148.1))) else (some false)) else (some false)) else (some false)) else (some false)) else (some false)))))) else (some false)) = some r := H
  have A4 := Aside0.mk A40
  clear A40
  by_cases c5 : t141 = true
  · subst c5
    have H1 : ((need_Lu.f k (mx (wrap64 (1 + (Int.tmod (wrap64 (a0)) 40))) (wrap64 (1 + (Int.tmod (wrap64 (a1)) 40)))) (wrap64 (1 + (Int.tmod (wrap64 (a1)) 40))) (wrap64 (1 + (Int.tmod (wrap64 (a2)) 20)))).bind fun bt142 => ((need_Product.f k (mx (wrap64 (1 + (Int.tmod (wrap64 (a0)) 40))) (wrap64 (1 + (Int.tmod (wrap64 (a1)) 40)))) (wrap64 (1 + (Int.tmod (wrap64 (a1)) 40))) (wrap64 (1 + (Int.tmod (wrap64 (a1)) 40))) (wrap64 (1 + (Int.tmod (wrap64 (a2)) 20)))).bind fun bt144 => ((need_Chol.f k (wrap64 (1 + (Int.tmod (wrap64 (a1)) 40))) (wrap64 (1 + (Int.tmod (wrap64 (a2)) 20)))).bind fun bt146 => ((need_Product.f k (wrap64 (1 + (Int.tmod (wrap64 (a1)) 40))) (wrap64 (1 + (Int.tmod (wrap64 (a1)) 40))) (wrap64 (1 + (Int.tmod (wrap64 (a1)) 40))) (wrap64 (1 + (Int.tmod (wrap64 (a2)) 20)))).bind fun bt148 => (if bt142.2 = 0 then (if bt144.2 = 0 then (if bt146.2 = 0 then (if bt148.2 = 0 then (if bt142.1 ≤ bt144.1 then (some (decide (bt146.1 ≤ bt148.1))) else (some false)) else (some false)) else (some false)) else (some false)) else (some false)))))) = some r := by rw [if_pos rfl] at H; exact H
    clear H
    have H := H1
    clear H1
    obtain ⟨ji6, hji6⟩ : ∃ j_ : Int, (mx (wrap64 (1 + (Int.tmod (wrap64 (a0)) 40))) (wrap64 (1 + (Int.tmod (wrap64 (a1)) 40)))) = j_ := ⟨_, rfl⟩
    replace H : ((need_Lu.f k (ji6) (wrap64 (1 + (Int.tmod (wrap64 (a1)) 40))) (wrap64 (1 + (Int.tmod (wrap64 (a2)) 20)))).bind fun bt142 => ((need_Product.f k (ji6) (wrap64 (1 + (Int.tmod (wrap64 (a1)) 40))) (wrap64 (1 + (Int.tmod (wrap64 (a1)) 40))) (wrap64 (1 + (Int.tmod (wrap64 (a2)) 20)))).bind fun bt144 => ((need_Chol.f k (wrap64 (1 + (Int.tmod (wrap64 (a1)) 40))) (wrap64 (1 + (Int.tmod (wrap64 (a2)) 20)))).bind fun bt146 => ((need_Product.f k (wrap64 (1 + (Int.tmod (wrap64 (a1)) 40))) (wrap64 (1 + (Int.tmod (wrap64 (a1)) 40))) (wrap64 (1 + (Int.tmod (wrap64 (a1)) 40))) (wrap64 (1 + (Int.tmod (wrap64 (a2)) 20)))).bind fun bt148 => (if bt142.2 = 0 then (if bt144.2 = 0 then (if bt146.2 = 0 then (if bt148.2 = 0 then (if bt142.1 ≤ bt144.1 then (some (decide (bt146.1 ≤ bt148.1))) else (some false)) else (some false)) else (some false)) else (some false)) else (some false)))))) = some r := by first | (rw [hji6] at H; exact H) | (simp only [hji6] at H ⊢; exact H)
    (try rw [hji6] at A4)
    have hji6_ : (if (wrap64 (1 + (Int.tmod (wrap64 (a0)) 40))) < (wrap64 (1 + (Int.tmod (wrap64 (a1)) 40))) then (wrap64 (1 + (Int.tmod (wrap64 (a1)) 40))) else (wrap64 (1 + (Int.tmod (wrap64 (a0)) 40)))) = ji6 := hji6
    replace H := Option.bind_eq_some_iff.mp H
    obtain ⟨⟨t142, t143⟩, A70, H⟩ := H
    replace H : ((need_Product.f k (ji6) (wrap64 (1 + (Int.tmod (wrap64 (a1)) 40))) (wrap64 (1 + (Int.tmod (wrap64 (a1)) 40))) (wrap64 (1 + (Int.tmod (wrap64 (a2)) 20)))).bind fun bt144 => ((need_Chol.f k (wrap64 (1 + (Int.tmod (wrap64 (a1)) 40))) (wrap64 (1 + (Int.tmod (wrap64 (a2)) 20)))).bind fun bt146 => ((need_Product.f k (wrap64 (1 + (Int.tmod (wrap64 (a1)) 40))) (wrap64 (1 + (Int.tmod (wrap64 (a1)) 40))) (wrap64 (1 + (Int.tmod (wrap64 (a1)) 40))) (wrap64 (1 + (Int.tmod (wrap64 (a2)) 20)))).bind fun bt148 => (if t143 = 0 then (if bt144.2 = 0 then (if bt146.2 = 0 then (if bt148.2 = 0 then (if t142 ≤ bt144.1 then (some (decide (bt146.1 ≤ bt148.1))) else (some false)) else (some false)) else (some false)) else (some false)) else (some false))))) = some r := H
    have A7 := Aside0.mk A70
    clear A70
    replace H := Option.bind_eq_some_iff.mp H
    obtain ⟨⟨t144, t145⟩, A80, H⟩ := H
    replace H : ((need_Chol.f k (wrap64 (1 + (Int.tmod (wrap64 (a1)) 40))) (wrap64 (1 + (Int.tmod (wrap64 (a2)) 20)))).bind fun bt146 => ((need_Product.f k (wrap64 (1 + (Int.tmod (wrap64 (a1)) 40))) (wrap64 (1 + (Int.tmod (wrap64 (a1)) 40))) (wrap64 (1 + (Int.tmod (wrap64 (a1)) 40))) (wrap64 (1 + (Int.tmod (wrap64 (a2)) 20)))).bind fun bt148 => (if t143 = 0 then (if t145 = 0 then (if bt146.2 = 0 then (if bt148.2 = 0 then (if t142 ≤ t144 then (some (decide (bt146.1 ≤ bt148.1))) else (some false)) else (some false)) else (some false)) else (some false)) else (some false)))) = some r := H
    have A8 := Aside0.mk A80
    clear A80
    replace H := Option.bind_eq_some_iff.mp H
    obtain ⟨⟨t146, t147⟩, A90, H⟩ := H
    replace H : ((need_Product.f k (wrap64 (1 + (Int.tmod (wrap64 (a1)) 40))) (wrap64 (1 + (Int.tmod (wrap64 (a1)) 40))) (wrap64 (1 + (Int.tmod (wrap64 (a1)) 40))) (wrap64 (1 + (Int.tmod (wrap64 (a2)) 20)))).bind fun bt148 => (if t143 = 0 then (if t145 = 0 then (if t147 = 0 then (if bt148.2 = 0 then (if t142 ≤ t144 then (some (decide (t146 ≤ bt148.1))) else (some false)) else (some false)) else (some false)) else (some false)) else (some false))) = some r := H
    have A9 := Aside0.mk A90
    clear A90
    replace H := Option.bind_eq_some_iff.mp H
    obtain ⟨⟨t148, t149⟩, A100, H⟩ := H
    replace H : (if t143 = 0 then (if t145 = 0 then (if t147 = 0 then (if t149 = 0 then (if t142 ≤ t144 then (some (decide (t146 ≤ t148))) else (some false)) else (some false)) else (some false)) else (some false)) else (some false)) = some r := H
    have A10 := Aside0.mk A100
    clear A100
    by_cases c11 : t143 = 0
    · rw [if_pos c11] at H
      have c11b0 : (t143 == 0) = true := beq_iff_eq.mpr c11
      have c11b1 : (t143 != 0) = false := bne_eq_false_iff_eq.mpr c11
      clear c11
      by_cases c12 : t145 = 0
      · rw [if_pos c12] at H
        have c12b0 : (t145 == 0) = true := beq_iff_eq.mpr c12
        have c12b1 : (t145 != 0) = false := bne_eq_false_iff_eq.mpr c12
        clear c12
        by_cases c13 : t147 = 0
        · rw [if_pos c13] at H
          have c13b0 : (t147 == 0) = true := beq_iff_eq.mpr c13
          have c13b1 : (t147 != 0) = false := bne_eq_false_iff_eq.mpr c13
          clear c13
          by_cases c14 : t149 = 0
          · rw [if_pos c14] at H
            have c14b0 : (t149 == 0) = true := beq_iff_eq.mpr c14
            have c14b1 : (t149 != 0) = false := bne_eq_false_iff_eq.mpr c14
            clear c14
            by_cases c15 : t142 ≤ t144
            · rw [if_pos c15] at H
              have c15b0 : decide (t142 ≤ t144) = true := decide_eq_true c15
              clear c15
              obtain rfl := Option.some.inj H
              go_enter Try.func7, Try.ntmps7
              go_wp2_with (first | ((with_reducible refine gate_callee (f := 16) rfl ?_); refine goesL_ (some 18) rfl rfl Try.func16 (by kernel_rfl) rfl #[] rfl (by (try simp only [List.map_toArray, List.map_cons, List.map_nil]); first | done | rfl | (simp only [List.length_drop, List.length_take]; rfl)) ?_; (with_reducible refine (vernierlaw27_alive.calls k  true _ A4.out).mono ?_); rintro e w16 ⟨rfl, hb⟩; refine ⟨_, rfl, ?_⟩; have n0_ := Aside0.mk (below_step (by repeat (first | (with_reducible first | exact HB.out | apply below_alloc | apply pw_below_drewN | apply below_drew1) | exact HB.out)) hb); clear HB; have HB := n0_; clear n0_; (try clear hb); (try clear hb2); (try clear hk); (try clear hi)) | ((with_reducible refine gate_callee (f := 25) rfl ?_); refine goesL_ (some 39) rfl rfl Try.func25 (by kernel_rfl) rfl #[.int .i64 ji6, .int .i64 (wrap64 (1 + (Int.tmod (wrap64 (a1)) 40))), .int .i64 (wrap64 (1 + (Int.tmod (wrap64 (a2)) 20)))] rfl (by (try simp only [List.map_toArray, List.map_cons, List.map_nil]); first | done | (simp only [hji6]; rfl) | rfl | (simp only [List.length_drop, List.length_take]; rfl)) ?_; (with_reducible refine (need_Lu.calls k ji6 (wrap64 (1 + (Int.tmod (wrap64 (a1)) 40))) (wrap64 (1 + (Int.tmod (wrap64 (a2)) 20))) t142 t143 _ A7.out).mono ?_); rintro e w17 ⟨rfl, hb⟩; refine ⟨_, rfl, ?_⟩; have n0_ := Aside0.mk (below_step (by repeat (first | (with_reducible first | exact HB.out | apply below_alloc | apply pw_below_drewN | apply below_drew1) | exact HB.out)) hb); clear HB; have HB := n0_; clear n0_; (try clear hb); (try clear hb2); (try clear hk); (try clear hi)) | ((with_reducible refine gate_callee (f := 17) rfl ?_); refine goesL_ (some 47) rfl rfl Try.func17 (by kernel_rfl) rfl #[.int .i64 ji6, .int .i64 (wrap64 (1 + (Int.tmod (wrap64 (a1)) 40))), .int .i64 (wrap64 (1 + (Int.tmod (wrap64 (a1)) 40))), .int .i64 (wrap64 (1 + (Int.tmod (wrap64 (a2)) 20)))] rfl (by (try simp only [List.map_toArray, List.map_cons, List.map_nil]); first | done | (simp only [hji6]; rfl) | rfl | (simp only [List.length_drop, List.length_take]; rfl)) ?_; (with_reducible refine (need_Product.calls k ji6 (wrap64 (1 + (Int.tmod (wrap64 (a1)) 40))) (wrap64 (1 + (Int.tmod (wrap64 (a1)) 40))) (wrap64 (1 + (Int.tmod (wrap64 (a2)) 20))) t144 t145 _ A8.out).mono ?_); rintro e w18 ⟨rfl, hb⟩; refine ⟨_, rfl, ?_⟩; have n0_ := Aside0.mk (below_step (by repeat (first | (with_reducible first | exact HB.out | apply below_alloc | apply pw_below_drewN | apply below_drew1) | exact HB.out)) hb); clear HB; have HB := n0_; clear n0_; (try clear hb); (try clear hb2); (try clear hk); (try clear hi)) | ((with_reducible refine gate_callee (f := 26) rfl ?_); refine goesL_ (some 53) rfl rfl Try.func26 (by kernel_rfl) rfl #[.int .i64 (wrap64 (1 + (Int.tmod (wrap64 (a1)) 40))), .int .i64 (wrap64 (1 + (Int.tmod (wrap64 (a2)) 20)))] rfl (by (try simp only [List.map_toArray, List.map_cons, List.map_nil]); first | done | rfl | (simp only [List.length_drop, List.length_take]; rfl)) ?_; (with_reducible refine (need_Chol.calls k (wrap64 (1 + (Int.tmod (wrap64 (a1)) 40))) (wrap64 (1 + (Int.tmod (wrap64 (a2)) 20))) t146 t147 _ A9.out).mono ?_); rintro e w19 ⟨rfl, hb⟩; refine ⟨_, rfl, ?_⟩; have n0_ := Aside0.mk (below_step (by repeat (first | (with_reducible first | exact HB.out | apply below_alloc | apply pw_below_drewN | apply below_drew1) | exact HB.out)) hb); clear HB; have HB := n0_; clear n0_; (try clear hb); (try clear hb2); (try clear hk); (try clear hi)) | ((with_reducible refine gate_callee (f := 17) rfl ?_); refine goesL_ (some 61) rfl rfl Try.func17 (by kernel_rfl) rfl #[.int .i64 (wrap64 (1 + (Int.tmod (wrap64 (a1)) 40))), .int .i64 (wrap64 (1 + (Int.tmod (wrap64 (a1)) 40))), .int .i64 (wrap64 (1 + (Int.tmod (wrap64 (a1)) 40))), .int .i64 (wrap64 (1 + (Int.tmod (wrap64 (a2)) 20)))] rfl (by (try simp only [List.map_toArray, List.map_cons, List.map_nil]); first | done | rfl | (simp only [List.length_drop, List.length_take]; rfl)) ?_; (with_reducible refine (need_Product.calls k (wrap64 (1 + (Int.tmod (wrap64 (a1)) 40))) (wrap64 (1 + (Int.tmod (wrap64 (a1)) 40))) (wrap64 (1 + (Int.tmod (wrap64 (a1)) 40))) (wrap64 (1 + (Int.tmod (wrap64 (a2)) 20))) t148 t149 _ A10.out).mono ?_); rintro e w20 ⟨rfl, hb⟩; refine ⟨_, rfl, ?_⟩; have n0_ := Aside0.mk (below_step (by repeat (first | (with_reducible first | exact HB.out | apply below_alloc | apply pw_below_drewN | apply below_drew1) | exact HB.out)) hb); clear HB; have HB := n0_; clear n0_; (try clear hb); (try clear hb2); (try clear hk); (try clear hi)))
              go_ret
              exact ⟨by first | rfl | (simp [errW_none, errW_some] <;> rfl) | (simp only [← hji6]; first | rfl | (simp [errW_none, errW_some] <;> rfl)) | (simp [*, errW_none, errW_some] <;> rfl), by repeat (first | (with_reducible first | exact HB.out | apply below_alloc | apply pw_below_drewN | apply below_drew1) | exact HB.out)⟩
            · rw [if_neg c15] at H
              have c15b0 : decide (t142 ≤ t144) = false := decide_eq_false c15
              clear c15
              obtain rfl := Option.some.inj H
              go_enter Try.func7, Try.ntmps7
              go_wp2_with (first | ((with_reducible refine gate_callee (f := 16) rfl ?_); refine goesL_ (some 18) rfl rfl Try.func16 (by kernel_rfl) rfl #[] rfl (by (try simp only [List.map_toArray, List.map_cons, List.map_nil]); first | done | rfl | (simp only [List.length_drop, List.length_take]; rfl)) ?_; (with_reducible refine (vernierlaw27_alive.calls k  true _ A4.out).mono ?_); rintro e w21 ⟨rfl, hb⟩; refine ⟨_, rfl, ?_⟩; have n0_ := Aside0.mk (below_step (by repeat (first | (with_reducible first | exact HB.out | apply below_alloc | apply pw_below_drewN | apply below_drew1) | exact HB.out)) hb); clear HB; have HB := n0_; clear n0_; (try clear hb); (try clear hb2); (try clear hk); (try clear hi)) | ((with_reducible refine gate_callee (f := 25) rfl ?_); refine goesL_ (some 39) rfl rfl Try.func25 (by kernel_rfl) rfl #[.int .i64 ji6, .int .i64 (wrap64 (1 + (Int.tmod (wrap64 (a1)) 40))), .int .i64 (wrap64 (1 + (Int.tmod (wrap64 (a2)) 20)))] rfl (by (try simp only [List.map_toArray, List.map_cons, List.map_nil]); first | done | (simp only [hji6]; rfl) | rfl | (simp only [List.length_drop, List.length_take]; rfl)) ?_; (with_reducible refine (need_Lu.calls k ji6 (wrap64 (1 + (Int.tmod (wrap64 (a1)) 40))) (wrap64 (1 + (Int.tmod (wrap64 (a2)) 20))) t142 t143 _ A7.out).mono ?_); rintro e w22 ⟨rfl, hb⟩; refine ⟨_, rfl, ?_⟩; have n0_ := Aside0.mk (below_step (by repeat (first | (with_reducible first | exact HB.out | apply below_alloc | apply pw_below_drewN | apply below_drew1) | exact HB.out)) hb); clear HB; have HB := n0_; clear n0_; (try clear hb); (try clear hb2); (try clear hk); (try clear hi)) | ((with_reducible refine gate_callee (f := 17) rfl ?_); refine goesL_ (some 47) rfl rfl Try.func17 (by kernel_rfl) rfl #[.int .i64 ji6, .int .i64 (wrap64 (1 + (Int.tmod (wrap64 (a1)) 40))), .int .i64 (wrap64 (1 + (Int.tmod (wrap64 (a1)) 40))), .int .i64 (wrap64 (1 + (Int.tmod (wrap64 (a2)) 20)))] rfl (by (try simp only [List.map_toArray, List.map_cons, List.map_nil]); first | done | (simp only [hji6]; rfl) | rfl | (simp only [List.length_drop, List.length_take]; rfl)) ?_; (with_reducible refine (need_Product.calls k ji6 (wrap64 (1 + (Int.tmod (wrap64 (a1)) 40))) (wrap64 (1 + (Int.tmod (wrap64 (a1)) 40))) (wrap64 (1 + (Int.tmod (wrap64 (a2)) 20))) t144 t145 _ A8.out).mono ?_); rintro e w23 ⟨rfl, hb⟩; refine ⟨_, rfl, ?_⟩; have n0_ := Aside0.mk (below_step (by repeat (first | (with_reducible first | exact HB.out | apply below_alloc | apply pw_below_drewN | apply below_drew1) | exact HB.out)) hb); clear HB; have HB := n0_; clear n0_; (try clear hb); (try clear hb2); (try clear hk); (try clear hi)) | ((with_reducible refine gate_callee (f := 26) rfl ?_); refine goesL_ (some 53) rfl rfl Try.func26 (by kernel_rfl) rfl #[.int .i64 (wrap64 (1 + (Int.tmod (wrap64 (a1)) 40))), .int .i64 (wrap64 (1 + (Int.tmod (wrap64 (a2)) 20)))] rfl (by (try simp only [List.map_toArray, List.map_cons, List.map_nil]); first | done | rfl | (simp only [List.length_drop, List.length_take]; rfl)) ?_; (with_reducible refine (need_Chol.calls k (wrap64 (1 + (Int.tmod (wrap64 (a1)) 40))) (wrap64 (1 + (Int.tmod (wrap64 (a2)) 20))) t146 t147 _ A9.out).mono ?_); rintro e w24 ⟨rfl, hb⟩; refine ⟨_, rfl, ?_⟩; have n0_ := Aside0.mk (below_step (by repeat (first | (with_reducible first | exact HB.out | apply below_alloc | apply pw_below_drewN | apply below_drew1) | exact HB.out)) hb); clear HB; have HB := n0_; clear n0_; (try clear hb); (try clear hb2); (try clear hk); (try clear hi)) | ((with_reducible refine gate_callee (f := 17) rfl ?_); refine goesL_ (some 61) rfl rfl Try.func17 (by kernel_rfl) rfl #[.int .i64 (wrap64 (1 + (Int.tmod (wrap64 (a1)) 40))), .int .i64 (wrap64 (1 + (Int.tmod (wrap64 (a1)) 40))), .int .i64 (wrap64 (1 + (Int.tmod (wrap64 (a1)) 40))), .int .i64 (wrap64 (1 + (Int.tmod (wrap64 (a2)) 20)))] rfl (by (try simp only [List.map_toArray, List.map_cons, List.map_nil]); first | done | rfl | (simp only [List.length_drop, List.length_take]; rfl)) ?_; (with_reducible refine (need_Product.calls k (wrap64 (1 + (Int.tmod (wrap64 (a1)) 40))) (wrap64 (1 + (Int.tmod (wrap64 (a1)) 40))) (wrap64 (1 + (Int.tmod (wrap64 (a1)) 40))) (wrap64 (1 + (Int.tmod (wrap64 (a2)) 20))) t148 t149 _ A10.out).mono ?_); rintro e w25 ⟨rfl, hb⟩; refine ⟨_, rfl, ?_⟩; have n0_ := Aside0.mk (below_step (by repeat (first | (with_reducible first | exact HB.out | apply below_alloc | apply pw_below_drewN | apply below_drew1) | exact HB.out)) hb); clear HB; have HB := n0_; clear n0_; (try clear hb); (try clear hb2); (try clear hk); (try clear hi)))
              go_ret
              exact ⟨by first | rfl | (simp [errW_none, errW_some] <;> rfl) | (simp only [← hji6]; first | rfl | (simp [errW_none, errW_some] <;> rfl)) | (simp [*, errW_none, errW_some] <;> rfl), by repeat (first | (with_reducible first | exact HB.out | apply below_alloc | apply pw_below_drewN | apply below_drew1) | exact HB.out)⟩
          · rw [if_neg c14] at H
            have c14b0 : (t149 == 0) = false := beq_eq_false_iff_ne.mpr c14
            have c14b1 : (t149 != 0) = true := bne_iff_ne.mpr c14
            obtain rfl := Option.some.inj H
            go_enter Try.func7, Try.ntmps7
            go_wp2_with (first | ((with_reducible refine gate_callee (f := 16) rfl ?_); refine goesL_ (some 18) rfl rfl Try.func16 (by kernel_rfl) rfl #[] rfl (by (try simp only [List.map_toArray, List.map_cons, List.map_nil]); first | done | rfl | (simp only [List.length_drop, List.length_take]; rfl)) ?_; (with_reducible refine (vernierlaw27_alive.calls k  true _ A4.out).mono ?_); rintro e w26 ⟨rfl, hb⟩; refine ⟨_, rfl, ?_⟩; have n0_ := Aside0.mk (below_step (by repeat (first | (with_reducible first | exact HB.out | apply below_alloc | apply pw_below_drewN | apply below_drew1) | exact HB.out)) hb); clear HB; have HB := n0_; clear n0_; (try clear hb); (try clear hb2); (try clear hk); (try clear hi)) | ((with_reducible refine gate_callee (f := 25) rfl ?_); refine goesL_ (some 39) rfl rfl Try.func25 (by kernel_rfl) rfl #[.int .i64 ji6, .int .i64 (wrap64 (1 + (Int.tmod (wrap64 (a1)) 40))), .int .i64 (wrap64 (1 + (Int.tmod (wrap64 (a2)) 20)))] rfl (by (try simp only [List.map_toArray, List.map_cons, List.map_nil]); first | done | (simp only [hji6]; rfl) | rfl | (simp only [List.length_drop, List.length_take]; rfl)) ?_; (with_reducible refine (need_Lu.calls k ji6 (wrap64 (1 + (Int.tmod (wrap64 (a1)) 40))) (wrap64 (1 + (Int.tmod (wrap64 (a2)) 20))) t142 t143 _ A7.out).mono ?_); rintro e w27 ⟨rfl, hb⟩; refine ⟨_, rfl, ?_⟩; have n0_ := Aside0.mk (below_step (by repeat (first | (with_reducible first | exact HB.out | apply below_alloc | apply pw_below_drewN | apply below_drew1) | exact HB.out)) hb); clear HB; have HB := n0_; clear n0_; (try clear hb); (try clear hb2); (try clear hk); (try clear hi)) | ((with_reducible refine gate_callee (f := 17) rfl ?_); refine goesL_ (some 47) rfl rfl Try.func17 (by kernel_rfl) rfl #[.int .i64 ji6, .int .i64 (wrap64 (1 + (Int.tmod (wrap64 (a1)) 40))), .int .i64 (wrap64 (1 + (Int.tmod (wrap64 (a1)) 40))), .int .i64 (wrap64 (1 + (Int.tmod (wrap64 (a2)) 20)))] rfl (by (try simp only [List.map_toArray, List.map_cons, List.map_nil]); first | done | (simp only [hji6]; rfl) | rfl | (simp only [List.length_drop, List.length_take]; rfl)) ?_; (with_reducible refine (need_Product.calls k ji6 (wrap64 (1 + (Int.tmod (wrap64 (a1)) 40))) (wrap64 (1 + (Int.tmod (wrap64 (a1)) 40))) (wrap64 (1 + (Int.tmod (wrap64 (a2)) 20))) t144 t145 _ A8.out).mono ?_); rintro e w28 ⟨rfl, hb⟩; refine ⟨_, rfl, ?_⟩; have n0_ := Aside0.mk (below_step (by repeat (first | (with_reducible first | exact HB.out | apply below_alloc | apply pw_below_drewN | apply below_drew1) | exact HB.out)) hb); clear HB; have HB := n0_; clear n0_; (try clear hb); (try clear hb2); (try clear hk); (try clear hi)) | ((with_reducible refine gate_callee (f := 26) rfl ?_); refine goesL_ (some 53) rfl rfl Try.func26 (by kernel_rfl) rfl #[.int .i64 (wrap64 (1 + (Int.tmod (wrap64 (a1)) 40))), .int .i64 (wrap64 (1 + (Int.tmod (wrap64 (a2)) 20)))] rfl (by (try simp only [List.map_toArray, List.map_cons, List.map_nil]); first | done | rfl | (simp only [List.length_drop, List.length_take]; rfl)) ?_; (with_reducible refine (need_Chol.calls k (wrap64 (1 + (Int.tmod (wrap64 (a1)) 40))) (wrap64 (1 + (Int.tmod (wrap64 (a2)) 20))) t146 t147 _ A9.out).mono ?_); rintro e w29 ⟨rfl, hb⟩; refine ⟨_, rfl, ?_⟩; have n0_ := Aside0.mk (below_step (by repeat (first | (with_reducible first | exact HB.out | apply below_alloc | apply pw_below_drewN | apply below_drew1) | exact HB.out)) hb); clear HB; have HB := n0_; clear n0_; (try clear hb); (try clear hb2); (try clear hk); (try clear hi)) | ((with_reducible refine gate_callee (f := 17) rfl ?_); refine goesL_ (some 61) rfl rfl Try.func17 (by kernel_rfl) rfl #[.int .i64 (wrap64 (1 + (Int.tmod (wrap64 (a1)) 40))), .int .i64 (wrap64 (1 + (Int.tmod (wrap64 (a1)) 40))), .int .i64 (wrap64 (1 + (Int.tmod (wrap64 (a1)) 40))), .int .i64 (wrap64 (1 + (Int.tmod (wrap64 (a2)) 20)))] rfl (by (try simp only [List.map_toArray, List.map_cons, List.map_nil]); first | done | rfl | (simp only [List.length_drop, List.length_take]; rfl)) ?_; (with_reducible refine (need_Product.calls k (wrap64 (1 + (Int.tmod (wrap64 (a1)) 40))) (wrap64 (1 + (Int.tmod (wrap64 (a1)) 40))) (wrap64 (1 + (Int.tmod (wrap64 (a1)) 40))) (wrap64 (1 + (Int.tmod (wrap64 (a2)) 20))) t148 t149 _ A10.out).mono ?_); rintro e w30 ⟨rfl, hb⟩; refine ⟨_, rfl, ?_⟩; have n0_ := Aside0.mk (below_step (by repeat (first | (with_reducible first | exact HB.out | apply below_alloc | apply pw_below_drewN | apply below_drew1) | exact HB.out)) hb); clear HB; have HB := n0_; clear n0_; (try clear hb); (try clear hb2); (try clear hk); (try clear hi)))
            go_ret
            exact ⟨by first | rfl | (simp [errW_none, errW_some] <;> rfl) | (simp only [← hji6]; first | rfl | (simp [errW_none, errW_some] <;> rfl)) | (simp [*, errW_none, errW_some] <;> rfl), by repeat (first | (with_reducible first | exact HB.out | apply below_alloc | apply pw_below_drewN | apply below_drew1) | exact HB.out)⟩
        · rw [if_neg c13] at H
          have c13b0 : (t147 == 0) = false := beq_eq_false_iff_ne.mpr c13
          have c13b1 : (t147 != 0) = true := bne_iff_ne.mpr c13
          obtain rfl := Option.some.inj H
          go_enter Try.func7, Try.ntmps7
          go_wp2_with (first | ((with_reducible refine gate_callee (f := 16) rfl ?_); refine goesL_ (some 18) rfl rfl Try.func16 (by kernel_rfl) rfl #[] rfl (by (try simp only [List.map_toArray, List.map_cons, List.map_nil]); first | done | rfl | (simp only [List.length_drop, List.length_take]; rfl)) ?_; (with_reducible refine (vernierlaw27_alive.calls k  true _ A4.out).mono ?_); rintro e w31 ⟨rfl, hb⟩; refine ⟨_, rfl, ?_⟩; have n0_ := Aside0.mk (below_step (by repeat (first | (with_reducible first | exact HB.out | apply below_alloc | apply pw_below_drewN | apply below_drew1) | exact HB.out)) hb); clear HB; have HB := n0_; clear n0_; (try clear hb); (try clear hb2); (try clear hk); (try clear hi)) | ((with_reducible refine gate_callee (f := 25) rfl ?_); refine goesL_ (some 39) rfl rfl Try.func25 (by kernel_rfl) rfl #[.int .i64 ji6, .int .i64 (wrap64 (1 + (Int.tmod (wrap64 (a1)) 40))), .int .i64 (wrap64 (1 + (Int.tmod (wrap64 (a2)) 20)))] rfl (by (try simp only [List.map_toArray, List.map_cons, List.map_nil]); first | done | (simp only [hji6]; rfl) | rfl | (simp only [List.length_drop, List.length_take]; rfl)) ?_; (with_reducible refine (need_Lu.calls k ji6 (wrap64 (1 + (Int.tmod (wrap64 (a1)) 40))) (wrap64 (1 + (Int.tmod (wrap64 (a2)) 20))) t142 t143 _ A7.out).mono ?_); rintro e w32 ⟨rfl, hb⟩; refine ⟨_, rfl, ?_⟩; have n0_ := Aside0.mk (below_step (by repeat (first | (with_reducible first | exact HB.out | apply below_alloc | apply pw_below_drewN | apply below_drew1) | exact HB.out)) hb); clear HB; have HB := n0_; clear n0_; (try clear hb); (try clear hb2); (try clear hk); (try clear hi)) | ((with_reducible refine gate_callee (f := 17) rfl ?_); refine goesL_ (some 47) rfl rfl Try.func17 (by kernel_rfl) rfl #[.int .i64 ji6, .int .i64 (wrap64 (1 + (Int.tmod (wrap64 (a1)) 40))), .int .i64 (wrap64 (1 + (Int.tmod (wrap64 (a1)) 40))), .int .i64 (wrap64 (1 + (Int.tmod (wrap64 (a2)) 20)))] rfl (by (try simp only [List.map_toArray, List.map_cons, List.map_nil]); first | done | (simp only [hji6]; rfl) | rfl | (simp only [List.length_drop, List.length_take]; rfl)) ?_; (with_reducible refine (need_Product.calls k ji6 (wrap64 (1 + (Int.tmod (wrap64 (a1)) 40))) (wrap64 (1 + (Int.tmod (wrap64 (a1)) 40))) (wrap64 (1 + (Int.tmod (wrap64 (a2)) 20))) t144 t145 _ A8.out).mono ?_); rintro e w33 ⟨rfl, hb⟩; refine ⟨_, rfl, ?_⟩; have n0_ := Aside0.mk (below_step (by repeat (first | (with_reducible first | exact HB.out | apply below_alloc | apply pw_below_drewN | apply below_drew1) | exact HB.out)) hb); clear HB; have HB := n0_; clear n0_; (try clear hb); (try clear hb2); (try clear hk); (try clear hi)) | ((with_reducible refine gate_callee (f := 26) rfl ?_); refine goesL_ (some 53) rfl rfl Try.func26 (by kernel_rfl) rfl #[.int .i64 (wrap64 (1 + (Int.tmod (wrap64 (a1)) 40))), .int .i64 (wrap64 (1 + (Int.tmod (wrap64 (a2)) 20)))] rfl (by (try simp only [List.map_toArray, List.map_cons, List.map_nil]); first | done | rfl | (simp only [List.length_drop, List.length_take]; rfl)) ?_; (with_reducible refine (need_Chol.calls k (wrap64 (1 + (Int.tmod (wrap64 (a1)) 40))) (wrap64 (1 + (Int.tmod (wrap64 (a2)) 20))) t146 t147 _ A9.out).mono ?_); rintro e w34 ⟨rfl, hb⟩; refine ⟨_, rfl, ?_⟩; have n0_ := Aside0.mk (below_step (by repeat (first | (with_reducible first | exact HB.out | apply below_alloc | apply pw_below_drewN | apply below_drew1) | exact HB.out)) hb); clear HB; have HB := n0_; clear n0_; (try clear hb); (try clear hb2); (try clear hk); (try clear hi)) | ((with_reducible refine gate_callee (f := 17) rfl ?_); refine goesL_ (some 61) rfl rfl Try.func17 (by kernel_rfl) rfl #[.int .i64 (wrap64 (1 + (Int.tmod (wrap64 (a1)) 40))), .int .i64 (wrap64 (1 + (Int.tmod (wrap64 (a1)) 40))), .int .i64 (wrap64 (1 + (Int.tmod (wrap64 (a1)) 40))), .int .i64 (wrap64 (1 + (Int.tmod (wrap64 (a2)) 20)))] rfl (by (try simp only [List.map_toArray, List.map_cons, List.map_nil]); first | done | rfl | (simp only [List.length_drop, List.length_take]; rfl)) ?_; (with_reducible refine (need_Product.calls k (wrap64 (1 + (Int.tmod (wrap64 (a1)) 40))) (wrap64 (1 + (Int.tmod (wrap64 (a1)) 40))) (wrap64 (1 + (Int.tmod (wrap64 (a1)) 40))) (wrap64 (1 + (Int.tmod (wrap64 (a2)) 20))) t148 t149 _ A10.out).mono ?_); rintro e w35 ⟨rfl, hb⟩; refine ⟨_, rfl, ?_⟩; have n0_ := Aside0.mk (below_step (by repeat (first | (with_reducible first | exact HB.out | apply below_alloc | apply pw_below_drewN | apply below_drew1) | exact HB.out)) hb); clear HB; have HB := n0_; clear n0_; (try clear hb); (try clear hb2); (try clear hk); (try clear hi)))
          go_ret
          exact ⟨by first | rfl | (simp [errW_none, errW_some] <;> rfl) | (simp only [← hji6]; first | rfl | (simp [errW_none, errW_some] <;> rfl)) | (simp [*, errW_none, errW_some] <;> rfl), by repeat (first | (with_reducible first | exact HB.out | apply below_alloc | apply pw_below_drewN | apply below_drew1) | exact HB.out)⟩
      · rw [if_neg c12] at H
        have c12b0 : (t145 == 0) = false := beq_eq_false_iff_ne.mpr c12
        have c12b1 : (t145 != 0) = true := bne_iff_ne.mpr c12
        obtain rfl := Option.some.inj H
        go_enter Try.func7, Try.ntmps7
        go_wp2_with (first | ((with_reducible refine gate_callee (f := 16) rfl ?_); refine goesL_ (some 18) rfl rfl Try.func16 (by kernel_rfl) rfl #[] rfl (by (try simp only [List.map_toArray, List.map_cons, List.map_nil]); first | done | rfl | (simp only [List.length_drop, List.length_take]; rfl)) ?_; (with_reducible refine (vernierlaw27_alive.calls k  true _ A4.out).mono ?_); rintro e w36 ⟨rfl, hb⟩; refine ⟨_, rfl, ?_⟩; have n0_ := Aside0.mk (below_step (by repeat (first | (with_reducible first | exact HB.out | apply below_alloc | apply pw_below_drewN | apply below_drew1) | exact HB.out)) hb); clear HB; have HB := n0_; clear n0_; (try clear hb); (try clear hb2); (try clear hk); (try clear hi)) | ((with_reducible refine gate_callee (f := 25) rfl ?_); refine goesL_ (some 39) rfl rfl Try.func25 (by kernel_rfl) rfl #[.int .i64 ji6, .int .i64 (wrap64 (1 + (Int.tmod (wrap64 (a1)) 40))), .int .i64 (wrap64 (1 + (Int.tmod (wrap64 (a2)) 20)))] rfl (by (try simp only [List.map_toArray, List.map_cons, List.map_nil]); first | done | (simp only [hji6]; rfl) | rfl | (simp only [List.length_drop, List.length_take]; rfl)) ?_; (with_reducible refine (need_Lu.calls k ji6 (wrap64 (1 + (Int.tmod (wrap64 (a1)) 40))) (wrap64 (1 + (Int.tmod (wrap64 (a2)) 20))) t142 t143 _ A7.out).mono ?_); rintro e w37 ⟨rfl, hb⟩; refine ⟨_, rfl, ?_⟩; have n0_ := Aside0.mk (below_step (by repeat (first | (with_reducible first | exact HB.out | apply below_alloc | apply pw_below_drewN | apply below_drew1) | exact HB.out)) hb); clear HB; have HB := n0_; clear n0_; (try clear hb); (try clear hb2); (try clear hk); (try clear hi)) | ((with_reducible refine gate_callee (f := 17) rfl ?_); refine goesL_ (some 47) rfl rfl Try.func17 (by kernel_rfl) rfl #[.int .i64 ji6, .int .i64 (wrap64 (1 + (Int.tmod (wrap64 (a1)) 40))), .int .i64 (wrap64 (1 + (Int.tmod (wrap64 (a1)) 40))), .int .i64 (wrap64 (1 + (Int.tmod (wrap64 (a2)) 20)))] rfl (by (try simp only [List.map_toArray, List.map_cons, List.map_nil]); first | done | (simp only [hji6]; rfl) | rfl | (simp only [List.length_drop, List.length_take]; rfl)) ?_; (with_reducible refine (need_Product.calls k ji6 (wrap64 (1 + (Int.tmod (wrap64 (a1)) 40))) (wrap64 (1 + (Int.tmod (wrap64 (a1)) 40))) (wrap64 (1 + (Int.tmod (wrap64 (a2)) 20))) t144 t145 _ A8.out).mono ?_); rintro e w38 ⟨rfl, hb⟩; refine ⟨_, rfl, ?_⟩; have n0_ := Aside0.mk (below_step (by repeat (first | (with_reducible first | exact HB.out | apply below_alloc | apply pw_below_drewN | apply below_drew1) | exact HB.out)) hb); clear HB; have HB := n0_; clear n0_; (try clear hb); (try clear hb2); (try clear hk); (try clear hi)) | ((with_reducible refine gate_callee (f := 26) rfl ?_); refine goesL_ (some 53) rfl rfl Try.func26 (by kernel_rfl) rfl #[.int .i64 (wrap64 (1 + (Int.tmod (wrap64 (a1)) 40))), .int .i64 (wrap64 (1 + (Int.tmod (wrap64 (a2)) 20)))] rfl (by (try simp only [List.map_toArray, List.map_cons, List.map_nil]); first | done | rfl | (simp only [List.length_drop, List.length_take]; rfl)) ?_; (with_reducible refine (need_Chol.calls k (wrap64 (1 + (Int.tmod (wrap64 (a1)) 40))) (wrap64 (1 + (Int.tmod (wrap64 (a2)) 20))) t146 t147 _ A9.out).mono ?_); rintro e w39 ⟨rfl, hb⟩; refine ⟨_, rfl, ?_⟩; have n0_ := Aside0.mk (below_step (by repeat (first | (with_reducible first | exact HB.out | apply below_alloc | apply pw_below_drewN | apply below_drew1) | exact HB.out)) hb); clear HB; have HB := n0_; clear n0_; (try clear hb); (try clear hb2); (try clear hk); (try clear hi)) | ((with_reducible refine gate_callee (f := 17) rfl ?_); refine goesL_ (some 61) rfl rfl Try.func17 (by kernel_rfl) rfl #[.int .i64 (wrap64 (1 + (Int.tmod (wrap64 (a1)) 40))), .int .i64 (wrap64 (1 + (Int.tmod (wrap64 (a1)) 40))), .int .i64 (wrap64 (1 + (Int.tmod (wrap64 (a1)) 40))), .int .i64 (wrap64 (1 + (Int.tmod (wrap64 (a2)) 20)))] rfl (by (try simp only [List.map_toArray, List.map_cons, List.map_nil]); first | done | rfl | (simp only [List.length_drop, List.length_take]; rfl)) ?_; (with_reducible refine (need_Product.calls k (wrap64 (1 + (Int.tmod (wrap64 (a1)) 40))) (wrap64 (1 + (Int.tmod (wrap64 (a1)) 40))) (wrap64 (1 + (Int.tmod (wrap64 (a1)) 40))) (wrap64 (1 + (Int.tmod (wrap64 (a2)) 20))) t148 t149 _ A10.out).mono ?_); rintro e w40 ⟨rfl, hb⟩; refine ⟨_, rfl, ?_⟩; have n0_ := Aside0.mk (below_step (by repeat (first | (with_reducible first | exact HB.out | apply below_alloc | apply pw_below_drewN | apply below_drew1) | exact HB.out)) hb); clear HB; have HB := n0_; clear n0_; (try clear hb); (try clear hb2); (try clear hk); (try clear hi)))
        go_ret
        exact ⟨by first | rfl | (simp [errW_none, errW_some] <;> rfl) | (simp only [← hji6]; first | rfl | (simp [errW_none, errW_some] <;> rfl)) | (simp [*, errW_none, errW_some] <;> rfl), by repeat (first | (with_reducible first | exact HB.out | apply below_alloc | apply pw_below_drewN | apply below_drew1) | exact HB.out)⟩
    · rw [if_neg c11] at H
      have c11b0 : (t143 == 0) = false := beq_eq_false_iff_ne.mpr c11
      have c11b1 : (t143 != 0) = true := bne_iff_ne.mpr c11
      obtain rfl := Option.some.inj H
      go_enter Try.func7, Try.ntmps7
      go_wp2_with (first | ((with_reducible refine gate_callee (f := 16) rfl ?_); refine goesL_ (some 18) rfl rfl Try.func16 (by kernel_rfl) rfl #[] rfl (by (try simp only [List.map_toArray, List.map_cons, List.map_nil]); first | done | rfl | (simp only [List.length_drop, List.length_take]; rfl)) ?_; (with_reducible refine (vernierlaw27_alive.calls k  true _ A4.out).mono ?_); rintro e w41 ⟨rfl, hb⟩; refine ⟨_, rfl, ?_⟩; have n0_ := Aside0.mk (below_step (by repeat (first | (with_reducible first | exact HB.out | apply below_alloc | apply pw_below_drewN | apply below_drew1) | exact HB.out)) hb); clear HB; have HB := n0_; clear n0_; (try clear hb); (try clear hb2); (try clear hk); (try clear hi)) | ((with_reducible refine gate_callee (f := 25) rfl ?_); refine goesL_ (some 39) rfl rfl Try.func25 (by kernel_rfl) rfl #[.int .i64 ji6, .int .i64 (wrap64 (1 + (Int.tmod (wrap64 (a1)) 40))), .int .i64 (wrap64 (1 + (Int.tmod (wrap64 (a2)) 20)))] rfl (by (try simp only [List.map_toArray, List.map_cons, List.map_nil]); first | done | (simp only [hji6]; rfl) | rfl | (simp only [List.length_drop, List.length_take]; rfl)) ?_; (with_reducible refine (need_Lu.calls k ji6 (wrap64 (1 + (Int.tmod (wrap64 (a1)) 40))) (wrap64 (1 + (Int.tmod (wrap64 (a2)) 20))) t142 t143 _ A7.out).mono ?_); rintro e w42 ⟨rfl, hb⟩; refine ⟨_, rfl, ?_⟩; have n0_ := Aside0.mk (below_step (by repeat (first | (with_reducible first | exact HB.out | apply below_alloc | apply pw_below_drewN | apply below_drew1) | exact HB.out)) hb); clear HB; have HB := n0_; clear n0_; (try clear hb); (try clear hb2); (try clear hk); (try clear hi)) | ((with_reducible refine gate_callee (f := 17) rfl ?_); refine goesL_ (some 47) rfl rfl Try.func17 (by kernel_rfl) rfl #[.int .i64 ji6, .int .i64 (wrap64 (1 + (Int.tmod (wrap64 (a1)) 40))), .int .i64 (wrap64 (1 + (Int.tmod (wrap64 (a1)) 40))), .int .i64 (wrap64 (1 + (Int.tmod (wrap64 (a2)) 20)))] rfl (by (try simp only [List.map_toArray, List.map_cons, List.map_nil]); first | done | (simp only [hji6]; rfl) | rfl | (simp only [List.length_drop, List.length_take]; rfl)) ?_; (with_reducible refine (need_Product.calls k ji6 (wrap64 (1 + (Int.tmod (wrap64 (a1)) 40))) (wrap64 (1 + (Int.tmod (wrap64 (a1)) 40))) (wrap64 (1 + (Int.tmod (wrap64 (a2)) 20))) t144 t145 _ A8.out).mono ?_); rintro e w43 ⟨rfl, hb⟩; refine ⟨_, rfl, ?_⟩; have n0_ := Aside0.mk (below_step (by repeat (first | (with_reducible first | exact HB.out | apply below_alloc | apply pw_below_drewN | apply below_drew1) | exact HB.out)) hb); clear HB; have HB := n0_; clear n0_; (try clear hb); (try clear hb2); (try clear hk); (try clear hi)) | ((with_reducible refine gate_callee (f := 26) rfl ?_); refine goesL_ (some 53) rfl rfl Try.func26 (by kernel_rfl) rfl #[.int .i64 (wrap64 (1 + (Int.tmod (wrap64 (a1)) 40))), .int .i64 (wrap64 (1 + (Int.tmod (wrap64 (a2)) 20)))] rfl (by (try simp only [List.map_toArray, List.map_cons, List.map_nil]); first | done | rfl | (simp only [List.length_drop, List.length_take]; rfl)) ?_; (with_reducible refine (need_Chol.calls k (wrap64 (1 + (Int.tmod (wrap64 (a1)) 40))) (wrap64 (1 + (Int.tmod (wrap64 (a2)) 20))) t146 t147 _ A9.out).mono ?_); rintro e w44 ⟨rfl, hb⟩; refine ⟨_, rfl, ?_⟩; have n0_ := Aside0.mk (below_step (by repeat (first | (with_reducible first | exact HB.out | apply below_alloc | apply pw_below_drewN | apply below_drew1) | exact HB.out)) hb); clear HB; have HB := n0_; clear n0_; (try clear hb); (try clear hb2); (try clear hk); (try clear hi)) | ((with_reducible refine gate_callee (f := 17) rfl ?_); refine goesL_ (some 61) rfl rfl Try.func17 (by kernel_rfl) rfl #[.int .i64 (wrap64 (1 + (Int.tmod (wrap64 (a1)) 40))), .int .i64 (wrap64 (1 + (Int.tmod (wrap64 (a1)) 40))), .int .i64 (wrap64 (1 + (Int.tmod (wrap64 (a1)) 40))), .int .i64 (wrap64 (1 + (Int.tmod (wrap64 (a2)) 20)))] rfl (by (try simp only [List.map_toArray, List.map_cons, List.map_nil]); first | done | rfl | (simp only [List.length_drop, List.length_take]; rfl)) ?_; (with_reducible refine (need_Product.calls k (wrap64 (1 + (Int.tmod (wrap64 (a1)) 40))) (wrap64 (1 + (Int.tmod (wrap64 (a1)) 40))) (wrap64 (1 + (Int.tmod (wrap64 (a1)) 40))) (wrap64 (1 + (Int.tmod (wrap64 (a2)) 20))) t148 t149 _ A10.out).mono ?_); rintro e w45 ⟨rfl, hb⟩; refine ⟨_, rfl, ?_⟩; have n0_ := Aside0.mk (below_step (by repeat (first | (with_reducible first | exact HB.out | apply below_alloc | apply pw_below_drewN | apply below_drew1) | exact HB.out)) hb); clear HB; have HB := n0_; clear n0_; (try clear hb); (try clear hb2); (try clear hk); (try clear hi)))
      go_ret
      exact ⟨by first | rfl | (simp [errW_none, errW_some] <;> rfl) | (simp only [← hji6]; first | rfl | (simp [errW_none, errW_some] <;> rfl)) | (simp [*, errW_none, errW_some] <;> rfl), by repeat (first | (with_reducible first | exact HB.out | apply below_alloc | apply pw_below_drewN | apply below_drew1) | exact HB.out)⟩
  · replace c5 := Bool.eq_false_iff.mpr c5
    subst c5
    have H1 : (some false) = some r := by rw [if_neg (show ¬ (false = true) by decide)] at H; exact H
    clear H
    have H := H1
    clear H1
    obtain rfl := Option.some.inj H
    go_enter Try.func7, Try.ntmps7
    go_wp2_with (first | ((with_reducible refine gate_callee (f := 16) rfl ?_); refine goesL_ (some 18) rfl rfl Try.func16 (by kernel_rfl) rfl #[] rfl (by (try simp only [List.map_toArray, List.map_cons, List.map_nil]); first | done | rfl | (simp only [List.length_drop, List.length_take]; rfl)) ?_; (with_reducible refine (vernierlaw27_alive.calls k  false _ A4.out).mono ?_); rintro e w46 ⟨rfl, hb⟩; refine ⟨_, rfl, ?_⟩; have n0_ := Aside0.mk (below_step (by repeat (first | (with_reducible first | exact HB.out | apply below_alloc | apply pw_below_drewN | apply below_drew1) | exact HB.out)) hb); clear HB; have HB := n0_; clear n0_; (try clear hb); (try clear hb2); (try clear hk); (try clear hi)))
    go_ret
    exact ⟨by first | rfl | (simp [errW_none, errW_some] <;> rfl) | (simp [*, errW_none, errW_some] <;> rfl), by repeat (first | (with_reducible first | exact HB.out | apply below_alloc | apply pw_below_drewN | apply below_drew1) | exact HB.out)⟩

/-- THE ONE PURE STATEMENT of vernierlaw27_NeedParts: yours. -/
def vernierlaw27_NeedParts.Pure : Prop := ∀ (a0 : Int) (a1 : Int) (a2 : Int), (Lit.int .u8 a0).wf = true → (Lit.int .u8 a1).wf = true → (Lit.int .u8 a2).wf = true → ∃ k, vernierlaw27_NeedParts.f k a0 a1 a2 = some true
theorem vernierlaw27_NeedParts.walk (P : vernierlaw27_NeedParts.Pure) (a0 : Int) (a1 : Int) (a2 : Int) (w : World) (w0 : (Lit.int .u8 a0).wf = true) (w1 : (Lit.int .u8 a1).wf = true) (w2 : (Lit.int .u8 a2).wf = true) :
    Calls Try.prog 7 #[.int .u8 a0, .int .u8 a1, .int .u8 a2] w fun e w' => e = .returned (.bool true) ∧ Below w.heap.size w w' := by
  obtain ⟨k, h⟩ := P a0 a1 a2 w0 w1 w2
  refine (vernierlaw27_NeedParts.calls k a0 a1 a2 true w h).mono ?_
  rintro e w' ⟨rfl, hd⟩
  exact ⟨rfl, hd⟩

end Go.Proofs.Ythmakmmfbdmdfaa.PNeedParts
