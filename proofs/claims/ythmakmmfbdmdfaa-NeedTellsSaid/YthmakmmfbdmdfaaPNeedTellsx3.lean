-- PRINTED BY print.sh 35421559b90ae4d0a3588c463048766b98c2df88dd9212a6774a882060cdf62d: not written by this session
import Derived.Test.YthmakmmfbdmdfaaPNeedTellsx0
import Derived.Test.YthmakmmfbdmdfaaPNeedTellsx2
namespace Go.Proofs.Ythmakmmfbdmdfaa.PNeedTells
open Go.RowKit Go.Proofs.YthmakmmfbdmdfaaW.PrintWords Go.Proofs.YthmakmmfbdmdfaaW.PrintLast Go.Proofs.YthmakmmfbdmdfaaW.PrintMore
attribute [local go_sem] max2_int min2_int max_two min_two max_three min_three max_four min_four   -- for this text's walks alone
set_option linter.unusedVariables false
set_option linter.unusedSimpArgs false

/-! ### vernierlaw27_chol: function 38 -/
def vernierlaw27_chol.f : Nat → Int → Int → Option (Int)
  | 0, _, _ => none
  | k + 1, a0, a1 => if a0 = 1 then (some 0) else ((vernierlaw27_chol.f k (wrap64 (Int.tdiv a0 2)) a1).bind fun t165 => ((vernierlaw27_tri.f k (wrap64 (Int.tdiv a0 2)) (wrap64 (a0 - (wrap64 (Int.tdiv a0 2)))) a1).bind fun t166 => ((vernierlaw27_words.f k (wrap64 (a0 - (wrap64 (Int.tdiv a0 2)))) (wrap64 (Int.tdiv a0 2)) (wrap64 (a0 - (wrap64 (Int.tdiv a0 2)))) a1).bind fun t167 => ((vernierlaw27_chol.f k (wrap64 (a0 - (wrap64 (Int.tdiv a0 2)))) a1).bind fun t168 => (some (mx (mx (mx t165 t166) t167) t168))))))
theorem vernierlaw27_chol.mono_l : ∀ k, (∀ y0 y1, LeO (vernierlaw27_chol.f k y0 y1) (vernierlaw27_chol.f (k + 1) y0 y1))
  | 0 => fun _ _ r h => by simp [vernierlaw27_chol.f] at h
  | k + 1 => by
    have ih0 := vernierlaw27_chol.mono_l k
    · intro y0 y1
      unfold vernierlaw27_chol.f
      repeat' first
      | (with_reducible exact ih0 _ _)
      | (with_reducible exact vernierlaw27_tri.mono _ _ _ _)
      | (with_reducible exact vernierlaw27_words.mono _ _ _ _ _)
      | (with_reducible exact LeO.refl _)
      | (with_reducible exact LeO.none _)
      | (with_reducible refine LeO.ite ?_ ?_)
      | (with_reducible refine LeO.bind ?_ (fun _ => ?_))
      | exact ih0 _ _
      | exact vernierlaw27_tri.mono _ _ _ _
      | exact vernierlaw27_words.mono _ _ _ _ _
      | exact LeO.none _
      | refine LeO.ite ?_ ?_
      | refine LeO.bind ?_ (fun _ => ?_)
theorem vernierlaw27_chol.mono : ∀ a0 a1 k, LeO (vernierlaw27_chol.f k a0 a1) (vernierlaw27_chol.f (k + 1) a0 a1) := by
  intro a0 a1 k
  have ih0 := vernierlaw27_chol.mono_l k
  exact ih0 a0 a1
set_option maxHeartbeats 8000000 in
set_option maxRecDepth 100000 in
theorem vernierlaw27_chol.calls (k : Nat) : ∀ (a0 : Int) (a1 : Int) (r : Int) (w : World) (h : vernierlaw27_chol.f k a0 a1 = some r),
    Calls Try.prog 38 #[.int .i64 a0, .int .i64 a1] w fun e w' => e = .returned (.int .i64 r) ∧ Below w.heap.size w w' := by
  induction k using Nat.strongRecOn with
  | _ k ih =>
  intro a0 a1 r w h
  cases k with
  | zero => exact absurd h (by simp [vernierlaw27_chol.f])
  | succ k =>
  simp only [vernierlaw27_chol.f] at h
  have HB := Aside0.mk (Below.refl w.heap.size w)
  have H : (if a0 = 1 then (some 0) else ((vernierlaw27_chol.f k (wrap64 (Int.tdiv a0 2)) a1).bind fun t165 => ((vernierlaw27_tri.f k (wrap64 (Int.tdiv a0 2)) (wrap64 (a0 - (wrap64 (Int.tdiv a0 2)))) a1).bind fun t166 => ((vernierlaw27_words.f k (wrap64 (a0 - (wrap64 (Int.tdiv a0 2)))) (wrap64 (Int.tdiv a0 2)) (wrap64 (a0 - (wrap64 (Int.tdiv a0 2)))) a1).bind fun t167 => ((vernierlaw27_chol.f k (wrap64 (a0 - (wrap64 (Int.tdiv a0 2)))) a1).bind fun t168 => (some (mx (mx (mx t165 t166) t167) t168))))))) = some r := h
  clear h
  by_cases c3 : a0 = 1
  · rw [if_pos c3] at H
    have c3b0 : (a0 == 1) = true := beq_iff_eq.mpr c3
    have c3b1 : (a0 != 1) = false := bne_eq_false_iff_eq.mpr c3
    clear c3
    obtain rfl := Option.some.inj H
    go_enter Try.func38, Try.ntmps38
    go_wp2
    go_ret
    exact ⟨by first | rfl | (simp [errW_none, errW_some] <;> rfl) | (simp [*, errW_none, errW_some] <;> rfl), by repeat (first | (with_reducible first | exact HB.out | apply below_alloc | apply pw_below_drewN | apply below_drew1) | exact HB.out)⟩
  · rw [if_neg c3] at H
    have c3b0 : (a0 == 1) = false := beq_eq_false_iff_ne.mpr c3
    have c3b1 : (a0 != 1) = true := bne_iff_ne.mpr c3
    replace H := Option.bind_eq_some_iff.mp H
    obtain ⟨t165, A40, H⟩ := H
    replace H : ((vernierlaw27_tri.f k (wrap64 (Int.tdiv a0 2)) (wrap64 (a0 - (wrap64 (Int.tdiv a0 2)))) a1).bind fun t166 => ((vernierlaw27_words.f k (wrap64 (a0 - (wrap64 (Int.tdiv a0 2)))) (wrap64 (Int.tdiv a0 2)) (wrap64 (a0 - (wrap64 (Int.tdiv a0 2)))) a1).bind fun t167 => ((vernierlaw27_chol.f k (wrap64 (a0 - (wrap64 (Int.tdiv a0 2)))) a1).bind fun t168 => (some (mx (mx (mx t165 t166) t167) t168))))) = some r := H
    have A4 := Aside0.mk A40
    clear A40
    replace H := Option.bind_eq_some_iff.mp H
    obtain ⟨t166, A50, H⟩ := H
    replace H : ((vernierlaw27_words.f k (wrap64 (a0 - (wrap64 (Int.tdiv a0 2)))) (wrap64 (Int.tdiv a0 2)) (wrap64 (a0 - (wrap64 (Int.tdiv a0 2)))) a1).bind fun t167 => ((vernierlaw27_chol.f k (wrap64 (a0 - (wrap64 (Int.tdiv a0 2)))) a1).bind fun t168 => (some (mx (mx (mx t165 t166) t167) t168)))) = some r := H
    have A5 := Aside0.mk A50
    clear A50
    replace H := Option.bind_eq_some_iff.mp H
    obtain ⟨t167, A60, H⟩ := H
    replace H : ((vernierlaw27_chol.f k (wrap64 (a0 - (wrap64 (Int.tdiv a0 2)))) a1).bind fun t168 => (some (mx (mx (mx t165 t166) t167) t168))) = some r := H
    have A6 := Aside0.mk A60
    clear A60
    replace H := Option.bind_eq_some_iff.mp H
    obtain ⟨t168, A70, H⟩ := H
    replace H : (some (mx (mx (mx t165 t166) t167) t168)) = some r := H
    have A7 := Aside0.mk A70
    clear A70
    obtain ⟨ji8, hji8⟩ : ∃ j_ : Int, (mx t165 t166) = j_ := ⟨_, rfl⟩
    replace H : (some (mx (mx (ji8) t167) t168)) = some r := by first | (rw [hji8] at H; exact H) | (simp only [hji8] at H ⊢; exact H)
    (try rw [hji8] at A4)
    (try rw [hji8] at A5)
    (try rw [hji8] at A6)
    (try rw [hji8] at A7)
    have hji8_ : (if t165 < t166 then t166 else t165) = ji8 := hji8
    obtain ⟨ji9, hji9⟩ : ∃ j_ : Int, (mx (ji8) t167) = j_ := ⟨_, rfl⟩
    replace H : (some (mx (ji9) t168)) = some r := by first | (rw [hji9] at H; exact H) | (simp only [hji9] at H ⊢; exact H)
    (try rw [hji9] at A4)
    (try rw [hji9] at A5)
    (try rw [hji9] at A6)
    (try rw [hji9] at A7)
    have hji9_ : (if (ji8) < t167 then t167 else (ji8)) = ji9 := hji9
    obtain ⟨ji10, hji10⟩ : ∃ j_ : Int, (mx (ji9) t168) = j_ := ⟨_, rfl⟩
    replace H : (some ji10) = some r := by first | (rw [hji10] at H; exact H) | (simp only [hji10] at H ⊢; exact H)
    (try rw [hji10] at A4)
    (try rw [hji10] at A5)
    (try rw [hji10] at A6)
    (try rw [hji10] at A7)
    have hji10_ : (if (ji9) < t168 then t168 else (ji9)) = ji10 := hji10
    obtain rfl := Option.some.inj H
    go_enter Try.func38, Try.ntmps38
    go_wp2_with (first | ((with_reducible refine gate_callee (f := 38) rfl ?_); refine goesL_ (some 12) rfl rfl Try.func38 (by kernel_rfl) rfl #[.int .i64 (wrap64 (Int.tdiv a0 2)), .int .i64 a1] rfl (by (try simp only [List.map_toArray, List.map_cons, List.map_nil]); first | done | rfl | (simp only [List.length_drop, List.length_take]; rfl)) ?_; (with_reducible refine (ih k (by omega) (wrap64 (Int.tdiv a0 2)) a1 t165 _ A4.out).mono ?_); rintro e w11 ⟨rfl, hb⟩; refine ⟨_, rfl, ?_⟩; have n0_ := Aside0.mk (below_step (by repeat (first | (with_reducible first | exact HB.out | apply below_alloc | apply pw_below_drewN | apply below_drew1) | exact HB.out)) hb); clear HB; have HB := n0_; clear n0_; (try clear hb); (try clear hb2); (try clear hk); (try clear hi)) | ((with_reducible refine gate_callee (f := 36) rfl ?_); refine goesL_ (some 18) rfl rfl Try.func36 (by kernel_rfl) rfl #[.int .i64 (wrap64 (Int.tdiv a0 2)), .int .i64 (wrap64 (a0 - (wrap64 (Int.tdiv a0 2)))), .int .i64 a1] rfl (by (try simp only [List.map_toArray, List.map_cons, List.map_nil]); first | done | rfl | (simp only [List.length_drop, List.length_take]; rfl)) ?_; (with_reducible refine (vernierlaw27_tri.calls k (wrap64 (Int.tdiv a0 2)) (wrap64 (a0 - (wrap64 (Int.tdiv a0 2)))) a1 t166 _ A5.out).mono ?_); rintro e w12 ⟨rfl, hb⟩; refine ⟨_, rfl, ?_⟩; have n0_ := Aside0.mk (below_step (by repeat (first | (with_reducible first | exact HB.out | apply below_alloc | apply pw_below_drewN | apply below_drew1) | exact HB.out)) hb); clear HB; have HB := n0_; clear n0_; (try clear hb); (try clear hb2); (try clear hk); (try clear hi)) | ((with_reducible refine gate_callee (f := 34) rfl ?_); refine goesL_ (some 27) rfl rfl Try.func34 (by kernel_rfl) rfl #[.int .i64 (wrap64 (a0 - (wrap64 (Int.tdiv a0 2)))), .int .i64 (wrap64 (Int.tdiv a0 2)), .int .i64 (wrap64 (a0 - (wrap64 (Int.tdiv a0 2)))), .int .i64 a1] rfl (by (try simp only [List.map_toArray, List.map_cons, List.map_nil]); first | done | rfl | (simp only [List.length_drop, List.length_take]; rfl)) ?_; (with_reducible refine (vernierlaw27_words.calls k (wrap64 (a0 - (wrap64 (Int.tdiv a0 2)))) (wrap64 (Int.tdiv a0 2)) (wrap64 (a0 - (wrap64 (Int.tdiv a0 2)))) a1 t167 _ A6.out).mono ?_); rintro e w13 ⟨rfl, hb⟩; refine ⟨_, rfl, ?_⟩; have n0_ := Aside0.mk (below_step (by repeat (first | (with_reducible first | exact HB.out | apply below_alloc | apply pw_below_drewN | apply below_drew1) | exact HB.out)) hb); clear HB; have HB := n0_; clear n0_; (try clear hb); (try clear hb2); (try clear hk); (try clear hi)) | ((with_reducible refine gate_callee (f := 38) rfl ?_); refine goesL_ (some 32) rfl rfl Try.func38 (by kernel_rfl) rfl #[.int .i64 (wrap64 (a0 - (wrap64 (Int.tdiv a0 2)))), .int .i64 a1] rfl (by (try simp only [List.map_toArray, List.map_cons, List.map_nil]); first | done | rfl | (simp only [List.length_drop, List.length_take]; rfl)) ?_; (with_reducible refine (ih k (by omega) (wrap64 (a0 - (wrap64 (Int.tdiv a0 2)))) a1 t168 _ A7.out).mono ?_); rintro e w14 ⟨rfl, hb⟩; refine ⟨_, rfl, ?_⟩; have n0_ := Aside0.mk (below_step (by repeat (first | (with_reducible first | exact HB.out | apply below_alloc | apply pw_below_drewN | apply below_drew1) | exact HB.out)) hb); clear HB; have HB := n0_; clear n0_; (try clear hb); (try clear hb2); (try clear hk); (try clear hi)))
    go_ret
    exact ⟨by first | rfl | (simp [errW_none, errW_some] <;> rfl) | (simp only [← hji8, ← hji9, ← hji10]; first | rfl | (simp [errW_none, errW_some] <;> rfl)) | (simp [*, errW_none, errW_some] <;> rfl), by repeat (first | (with_reducible first | exact HB.out | apply below_alloc | apply pw_below_drewN | apply below_drew1) | exact HB.out)⟩

/-! ### vernierlaw27_told: function 39 -/
def vernierlaw27_told.f (a0 : Int) (a1 : Int) (a2 : Bool) (a3 : Int) : Option (Bool) := if a2 = true then (if a1 = 0 then (some (a0 == a3)) else (some false)) else (if a1 = 4 then (some (a0 == 0)) else (some false))
set_option maxHeartbeats 8000000 in
set_option maxRecDepth 100000 in
theorem vernierlaw27_told.calls (a0 : Int) (a1 : Int) (a2 : Bool) (a3 : Int) (r : Bool) (w : World) (h : vernierlaw27_told.f a0 a1 a2 a3 = some r) :
    Calls Try.prog 39 #[.int .i64 a0, .int .i64 a1, .bool a2, .int .i64 a3] w fun e w' => e = .returned (.bool r) ∧ Drawn0 w w' := by
  have H : (if a2 = true then (if a1 = 0 then (some (a0 == a3)) else (some false)) else (if a1 = 4 then (some (a0 == 0)) else (some false))) = some r := h
  clear h
  by_cases c5 : a2 = true
  · subst c5
    have H1 : (if a1 = 0 then (some (a0 == a3)) else (some false)) = some r := by rw [if_pos rfl] at H; exact H
    clear H
    have H := H1
    clear H1
    by_cases c6 : a1 = 0
    · rw [if_pos c6] at H
      have c6b0 : (a1 == 0) = true := beq_iff_eq.mpr c6
      have c6b1 : (a1 != 0) = false := bne_eq_false_iff_eq.mpr c6
      clear c6
      obtain rfl := Option.some.inj H
      go_enter Try.func39, Try.ntmps39
      go_wp2
      go_ret
      exact ⟨by first | rfl | (simp; done) | (simp [*]; done), by repeat (first | exact Drawn0.refl _ | apply Drawn0.step)⟩
    · rw [if_neg c6] at H
      have c6b0 : (a1 == 0) = false := beq_eq_false_iff_ne.mpr c6
      have c6b1 : (a1 != 0) = true := bne_iff_ne.mpr c6
      obtain rfl := Option.some.inj H
      go_enter Try.func39, Try.ntmps39
      go_wp2
      go_ret
      exact ⟨by first | rfl | (simp; done) | (simp [*]; done), by repeat (first | exact Drawn0.refl _ | apply Drawn0.step)⟩
  · replace c5 := Bool.eq_false_iff.mpr c5
    subst c5
    have H1 : (if a1 = 4 then (some (a0 == 0)) else (some false)) = some r := by rw [if_neg (show ¬ (false = true) by decide)] at H; exact H
    clear H
    have H := H1
    clear H1
    by_cases c7 : a1 = 4
    · rw [if_pos c7] at H
      have c7b0 : (a1 == 4) = true := beq_iff_eq.mpr c7
      have c7b1 : (a1 != 4) = false := bne_eq_false_iff_eq.mpr c7
      clear c7
      obtain rfl := Option.some.inj H
      go_enter Try.func39, Try.ntmps39
      go_wp2
      go_ret
      exact ⟨by first | rfl | (simp; done) | (simp [*]; done), by repeat (first | exact Drawn0.refl _ | apply Drawn0.step)⟩
    · rw [if_neg c7] at H
      have c7b0 : (a1 == 4) = false := beq_eq_false_iff_ne.mpr c7
      have c7b1 : (a1 != 4) = true := bne_iff_ne.mpr c7
      obtain rfl := Option.some.inj H
      go_enter Try.func39, Try.ntmps39
      go_wp2
      go_ret
      exact ⟨by first | rfl | (simp; done) | (simp [*]; done), by repeat (first | exact Drawn0.refl _ | apply Drawn0.step)⟩

end Go.Proofs.Ythmakmmfbdmdfaa.PNeedTells
