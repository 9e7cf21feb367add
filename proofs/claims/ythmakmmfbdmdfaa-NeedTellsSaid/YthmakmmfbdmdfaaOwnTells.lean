/- The law NeedTells, walked: what it calls comes to what it must, so it comes to true. -/
import Derived.Test.YthmakmmfbdmdfaaPNeedTellsx3
set_option linter.unusedVariables false
set_option linter.unusedSimpArgs false
namespace Go.Proofs.Ythmakmmfbdmdfaa.OwnTells
open Go.RowKit Go.Proofs.Ythmakmmfbdmdfaa.PNeedTells Go.Proofs.YthmakmmfbdmdfaaW.PrintWords Go.Proofs.YthmakmmfbdmdfaaW.PrintLast Go.Proofs.YthmakmmfbdmdfaaW.PrintMore
attribute [local go_sem] max2_int min2_int max_two min_two max_three min_three max_four min_four

/-- What a number and an error must be. -/
abbrev T (a e : Int) (ok : Bool) (w : Int) : Prop := vernierlaw27_told.f a e ok w = some true

set_option maxHeartbeats 8000000 in
set_option maxRecDepth 100000 in
theorem walk (k : Nat) (a0 a1 a2 a3 : Int) (s0 s1 s2 al tw tm sc : Bool) (pa pe ta te la le ca ce xa xe ya ye wa wb wc_ wd wx wy : Int) (w : World)
    (HA : Aside0 (vernierlaw27_alive.f k = some true)) (HP : Aside0 (need_Product.f k a0 a1 a2 a3 = some (pa, pe))) (HTr : Aside0 (need_Tri.f k a2 a0 a3 = some (ta, te)))
    (HL : Aside0 (need_Lu.f k a0 a2 a3 = some (la, le))) (HC : Aside0 (need_Chol.f k a2 a3 = some (ca, ce))) (HX : Aside0 (need_Muls.f k a0 a1 a2 a3 = some (xa, xe))) (HY : Aside0 (need_Adds.f k a0 a1 a2 a3 = some (ya, ye)))
    (S0 : Aside0 (vernierlaw27_side.f a0 = some s0)) (S1 : Aside0 (vernierlaw27_side.f a1 = some s1)) (S2 : Aside0 (vernierlaw27_side.f a2 = some s2))
    (Hal : Aside0 (al = (s0 && s1 && s2 && decide (1 ≤ a3)))) (Htw : Aside0 (tw = (s0 && s2 && decide (1 ≤ a3)))) (Htm : Aside0 (tm = (tw && decide (a2 ≤ a0)))) (Hsc : Aside0 (sc = (s2 && decide (1 ≤ a3))))
    (W1 : Aside0 (al = true → vernierlaw27_words.f k a0 a1 a2 a3 = some wa ∧ vernierlaw27_count.f k a0 a1 a2 a3 = some (wx, wy))) (W0 : Aside0 (al = false → wa = 0 ∧ wx = 0 ∧ wy = 0))
    (V1 : Aside0 (tw = true → vernierlaw27_tri.f k a2 a0 a3 = some wb)) (V0 : Aside0 (tw = false → wb = 0))
    (U1 : Aside0 (tm = true → vernierlaw27_lu.f k a0 a2 a3 = some wc_)) (U0 : Aside0 (tm = false → wc_ = 0))
    (X1 : Aside0 (sc = true → vernierlaw27_chol.f k a2 a3 = some wd)) (X0 : Aside0 (sc = false → wd = 0))
    (T1 : Aside0 (T pa pe al wa)) (T2 : Aside0 (T ta te tw wb)) (T3 : Aside0 (T la le tm wc_)) (T4 : Aside0 (T ca ce sc wd)) (T5 : Aside0 (T xa xe al wx)) (T6 : Aside0 (T ya ye al wy)) :
    Calls Try.prog 10 #[.int .i64 a0, .int .i64 a1, .int .i64 a2, .int .i64 a3] w fun e w' => e = .returned (.bool true) ∧ Below w.heap.size w w' := by
  have HB := Aside0.mk (Below.refl w.heap.size w)
  go_enter Try.func10, Try.ntmps10
  go_upto_region 10 with (first | (go_at_call 16; (with_reducible refine (vernierlaw27_alive.calls k true _ HA.out).mono ?_); rintro e w' ⟨rfl, hb⟩; have n0_ := Aside0.mk (below_step (by repeat (first | (with_reducible first | exact HB.out | apply below_alloc | apply pw_below_drewN | apply below_drew1) | exact HB.out)) hb); clear HB; have HB := n0_; clear n0_; clear hb) | (go_at_call 17; (with_reducible refine (need_Product.calls k a0 a1 a2 a3 pa pe _ HP.out).mono ?_); rintro e w' ⟨rfl, hb⟩; have n0_ := Aside0.mk (below_step (by repeat (first | (with_reducible first | exact HB.out | apply below_alloc | apply pw_below_drewN | apply below_drew1) | exact HB.out)) hb); clear HB; have HB := n0_; clear n0_; clear hb) | (go_at_call 31; (with_reducible refine (need_Tri.calls k a2 a0 a3 ta te _ HTr.out).mono ?_); rintro e w' ⟨rfl, hb⟩; have n0_ := Aside0.mk (below_step (by repeat (first | (with_reducible first | exact HB.out | apply below_alloc | apply pw_below_drewN | apply below_drew1) | exact HB.out)) hb); clear HB; have HB := n0_; clear n0_; clear hb) | (go_at_call 25; (with_reducible refine (need_Lu.calls k a0 a2 a3 la le _ HL.out).mono ?_); rintro e w' ⟨rfl, hb⟩; have n0_ := Aside0.mk (below_step (by repeat (first | (with_reducible first | exact HB.out | apply below_alloc | apply pw_below_drewN | apply below_drew1) | exact HB.out)) hb); clear HB; have HB := n0_; clear n0_; clear hb) | (go_at_call 26; (with_reducible refine (need_Chol.calls k a2 a3 ca ce _ HC.out).mono ?_); rintro e w' ⟨rfl, hb⟩; have n0_ := Aside0.mk (below_step (by repeat (first | (with_reducible first | exact HB.out | apply below_alloc | apply pw_below_drewN | apply below_drew1) | exact HB.out)) hb); clear HB; have HB := n0_; clear n0_; clear hb) | (go_at_call 18; (with_reducible refine (need_Muls.calls k a0 a1 a2 a3 xa xe _ HX.out).mono ?_); rintro e w' ⟨rfl, hb⟩; have n0_ := Aside0.mk (below_step (by repeat (first | (with_reducible first | exact HB.out | apply below_alloc | apply pw_below_drewN | apply below_drew1) | exact HB.out)) hb); clear HB; have HB := n0_; clear n0_; clear hb) | (go_at_call 32; (with_reducible refine (need_Adds.calls k a0 a1 a2 a3 ya ye _ HY.out).mono ?_); rintro e w' ⟨rfl, hb⟩; have n0_ := Aside0.mk (below_step (by repeat (first | (with_reducible first | exact HB.out | apply below_alloc | apply pw_below_drewN | apply below_drew1) | exact HB.out)) hb); clear HB; have HB := n0_; clear n0_; clear hb))
  (try simp only [Act.put, List.setIfInBounds_toArray, List.set_cons_zero, List.set_cons_succ])
  go_cut [22] (fun v22 wc => v22 = .bool al ∧ Aside0 (Below w.heap.size w wc))
  case first => as_aux_lemma =>
    have hal := Hal.out
    clear Hal Htw Htm Hsc W1 W0 V1 V0 U1 U0 X1 X0 T1 T2 T3 T4 T5 T6
    cases s0 <;> cases s1 <;> cases s2 <;> simp only [Bool.true_and, Bool.false_and, Bool.and_true, Bool.and_false, Bool.and_self] at hal
    all_goals
      have Hal := Aside0.mk hal
      clear hal
      go_wp2_with (first | (go_at_call 33; (with_reducible refine (vernierlaw27_side.calls a0 _ _ S0.out).mono ?_); rintro e w' ⟨rfl, ⟨nd, rfl⟩⟩) | (go_at_call 33; (with_reducible refine (vernierlaw27_side.calls a1 _ _ S1.out).mono ?_); rintro e w' ⟨rfl, ⟨nd, rfl⟩⟩) | (go_at_call 33; (with_reducible refine (vernierlaw27_side.calls a2 _ _ S2.out).mono ?_); rintro e w' ⟨rfl, ⟨nd, rfl⟩⟩))
      go_meet
      case rel => exact ⟨by rw [Hal.out] <;> (first | rfl | (simp; done)), ⟨(by repeat (first | (with_reducible first | exact HB.out | apply below_alloc | apply pw_below_drewN | apply below_drew1) | exact HB.out))⟩⟩
  case rest =>
    obtain ⟨rfl, HB⟩ := hcut
    clear HA HP HTr HL HC HX HY S1
    go_upto_region 11 with (fail)
    go_cut [23] (fun v23 wc => v23 = .bool tw ∧ Aside0 (Below w.heap.size w wc))
    case first => as_aux_lemma =>
      have htw := Htw.out
      clear Hal Htw Htm Hsc W1 W0 V1 V0 U1 U0 X1 X0 T1 T2 T3 T4 T5 T6
      cases s0 <;> cases s2 <;> simp only [Bool.true_and, Bool.false_and, Bool.and_true, Bool.and_false, Bool.and_self] at htw
      all_goals
        have Htw := Aside0.mk htw
        clear htw
        go_wp2_with (first | (go_at_call 33; (with_reducible refine (vernierlaw27_side.calls a0 _ _ S0.out).mono ?_); rintro e w' ⟨rfl, ⟨nd, rfl⟩⟩) | (go_at_call 33; (with_reducible refine (vernierlaw27_side.calls a2 _ _ S2.out).mono ?_); rintro e w' ⟨rfl, ⟨nd, rfl⟩⟩))
        go_meet
        case rel => exact ⟨by rw [Htw.out] <;> (first | rfl | (simp; done)), ⟨(by repeat (first | (with_reducible first | exact HB.out | apply below_alloc | apply pw_below_drewN | apply below_drew1) | exact HB.out))⟩⟩
    case rest =>
      obtain ⟨rfl, HB⟩ := hcut
      clear S0 Hal Htw
      go_upto_if 100 with (fail)
      go_cut [24, 28, 29] (fun v24 v28 v29 wc => v24 = .int .i64 wa ∧ v28 = .int .i64 wx ∧ v29 = .int .i64 wy ∧ Aside0 (Below w.heap.size w wc))
      case first => as_aux_lemma =>
        clear Htm Hsc V1 V0 U1 U0 X1 X0 T1 T2 T3 T4 T5 T6 S2
        cases al
        · obtain ⟨rfl, rfl, rfl⟩ := W0.out rfl
          clear W1 W0
          go_wp2
          go_meet
          case rel => exact ⟨rfl, rfl, rfl, ⟨(by repeat (first | (with_reducible first | exact HB.out | apply below_alloc | apply pw_below_drewN | apply below_drew1) | exact HB.out))⟩⟩
        · obtain ⟨e1, e2⟩ := W1.out rfl
          have E1 := Aside0.mk e1
          have E2 := Aside0.mk e2
          clear W1 W0 e1 e2
          go_wp2_with (first | (go_at_call 34; (with_reducible refine (vernierlaw27_words.calls k a0 a1 a2 a3 wa _ E1.out).mono ?_); rintro e w' ⟨rfl, hb⟩; have n0_ := Aside0.mk (below_step (by repeat (first | (with_reducible first | exact HB.out | apply below_alloc | apply pw_below_drewN | apply below_drew1) | exact HB.out)) hb); clear HB; have HB := n0_; clear n0_; clear hb) | (go_at_call 35; (with_reducible refine (vernierlaw27_count.calls k a0 a1 a2 a3 wx wy _ E2.out).mono ?_); rintro e w' ⟨rfl, ⟨nd, rfl⟩⟩))
          go_meet
          case rel => exact ⟨rfl, rfl, rfl, ⟨(by repeat (first | (with_reducible first | exact HB.out | apply below_alloc | apply pw_below_drewN | apply below_drew1) | exact HB.out))⟩⟩
      case rest =>
        obtain ⟨rfl, rfl, rfl, HB⟩ := hcut
        clear W1 W0
        go_upto_if 114 with (fail)
        go_cut [25] (fun v25 wc => v25 = .int .i64 wb ∧ Aside0 (Below w.heap.size w wc))
        case first => as_aux_lemma =>
          clear Htm Hsc U1 U0 X1 X0 T1 T2 T3 T4 T5 T6 S2
          cases tw
          · obtain rfl := V0.out rfl
            clear V1 V0
            go_wp2
            go_meet
            case rel => exact ⟨rfl, ⟨(by repeat (first | (with_reducible first | exact HB.out | apply below_alloc | apply pw_below_drewN | apply below_drew1) | exact HB.out))⟩⟩
          · have E1 := Aside0.mk (V1.out rfl)
            clear V1 V0
            go_wp2_with (first | (go_at_call 36; (with_reducible refine (vernierlaw27_tri.calls k a2 a0 a3 wb _ E1.out).mono ?_); rintro e w' ⟨rfl, hb⟩; have n0_ := Aside0.mk (below_step (by repeat (first | (with_reducible first | exact HB.out | apply below_alloc | apply pw_below_drewN | apply below_drew1) | exact HB.out)) hb); clear HB; have HB := n0_; clear n0_; clear hb))
            go_meet
            case rel => exact ⟨rfl, ⟨(by repeat (first | (with_reducible first | exact HB.out | apply below_alloc | apply pw_below_drewN | apply below_drew1) | exact HB.out))⟩⟩
        case rest =>
          obtain ⟨rfl, HB⟩ := hcut
          clear V1 V0
          go_upto_region 18 with (fail)
          go_cut [124] (fun v124 wc => v124 = .bool tm ∧ Aside0 (Below w.heap.size w wc))
          case first => as_aux_lemma =>
            have htm := Htm.out
            clear Htm Hsc U1 U0 X1 X0 T1 T2 T3 T4 T5 T6 S2
            cases tw <;> simp only [Bool.true_and, Bool.false_and] at htm
            all_goals
              have Htm := Aside0.mk htm
              clear htm
              go_wp2
              go_meet
              case rel => exact ⟨by rw [Htm.out] <;> (first | rfl | (simp; done)), ⟨(by repeat (first | (with_reducible first | exact HB.out | apply below_alloc | apply pw_below_drewN | apply below_drew1) | exact HB.out))⟩⟩
          case rest =>
            obtain ⟨rfl, HB⟩ := hcut
            go_upto_if 124 with (fail)
            go_cut [26] (fun v26 wc => v26 = .int .i64 wc_ ∧ Aside0 (Below w.heap.size w wc))
            case first => as_aux_lemma =>
              clear Htm Hsc X1 X0 T1 T2 T3 T4 T5 T6 S2
              cases tm
              · obtain rfl := U0.out rfl
                clear U1 U0
                go_wp2
                go_meet
                case rel => exact ⟨rfl, ⟨(by repeat (first | (with_reducible first | exact HB.out | apply below_alloc | apply pw_below_drewN | apply below_drew1) | exact HB.out))⟩⟩
              · have E1 := Aside0.mk (U1.out rfl)
                clear U1 U0
                go_wp2_with (first | (go_at_call 37; (with_reducible refine (vernierlaw27_lu.calls k a0 a2 a3 wc_ _ E1.out).mono ?_); rintro e w' ⟨rfl, hb⟩; have n0_ := Aside0.mk (below_step (by repeat (first | (with_reducible first | exact HB.out | apply below_alloc | apply pw_below_drewN | apply below_drew1) | exact HB.out)) hb); clear HB; have HB := n0_; clear n0_; clear hb))
                go_meet
                case rel => exact ⟨rfl, ⟨(by repeat (first | (with_reducible first | exact HB.out | apply below_alloc | apply pw_below_drewN | apply below_drew1) | exact HB.out))⟩⟩
            case rest =>
              obtain ⟨rfl, HB⟩ := hcut
              clear U1 U0
              go_upto_region 20 with (fail)
              go_cut [133] (fun v133 wc => v133 = .bool sc ∧ Aside0 (Below w.heap.size w wc))
              case first => as_aux_lemma =>
                have hsc := Hsc.out
                clear Htm Hsc X1 X0 T1 T2 T3 T4 T5 T6
                cases s2 <;> simp only [Bool.true_and, Bool.false_and] at hsc
                all_goals
                  have Hsc := Aside0.mk hsc
                  clear hsc
                  go_wp2_with (first | (go_at_call 33; (with_reducible refine (vernierlaw27_side.calls a2 _ _ S2.out).mono ?_); rintro e w' ⟨rfl, ⟨nd, rfl⟩⟩))
                  go_meet
                  case rel => exact ⟨by rw [Hsc.out] <;> (first | rfl | (simp; done)), ⟨(by repeat (first | (with_reducible first | exact HB.out | apply below_alloc | apply pw_below_drewN | apply below_drew1) | exact HB.out))⟩⟩
              case rest =>
                obtain ⟨rfl, HB⟩ := hcut
                go_upto_if 133 with (fail)
                go_cut [27] (fun v27 wc => v27 = .int .i64 wd ∧ Aside0 (Below w.heap.size w wc))
                case first => as_aux_lemma =>
                  clear Htm Hsc T1 T2 T3 T4 T5 T6 S2
                  cases sc
                  · obtain rfl := X0.out rfl
                    clear X1 X0
                    go_wp2
                    go_meet
                    case rel => exact ⟨rfl, ⟨(by repeat (first | (with_reducible first | exact HB.out | apply below_alloc | apply pw_below_drewN | apply below_drew1) | exact HB.out))⟩⟩
                  · have E1 := Aside0.mk (X1.out rfl)
                    clear X1 X0
                    go_wp2_with (first | (go_at_call 38; (with_reducible refine (vernierlaw27_chol.calls k a2 a3 wd _ E1.out).mono ?_); rintro e w' ⟨rfl, hb⟩; have n0_ := Aside0.mk (below_step (by repeat (first | (with_reducible first | exact HB.out | apply below_alloc | apply pw_below_drewN | apply below_drew1) | exact HB.out)) hb); clear HB; have HB := n0_; clear n0_; clear hb))
                    go_meet
                    case rel => exact ⟨rfl, ⟨(by repeat (first | (with_reducible first | exact HB.out | apply below_alloc | apply pw_below_drewN | apply below_drew1) | exact HB.out))⟩⟩
                case rest => as_aux_lemma =>
                  obtain ⟨rfl, HB⟩ := hcut
                  clear X1 X0
                  have htm := Htm.out
                  have hsc := Hsc.out
                  have t3 := T3.out
                  have t4 := T4.out
                  clear Htm Hsc T3 T4
                  cases tw <;> cases s2 <;> simp only [Bool.true_and, Bool.false_and] at htm hsc <;> subst htm <;> subst hsc
                  all_goals as_aux_lemma =>
                    have T3 := Aside0.mk t3
                    have T4 := Aside0.mk t4
                    clear t3 t4
                    go_wp2_with (first | (go_at_call 33; (with_reducible refine (vernierlaw27_side.calls a2 _ _ S2.out).mono ?_); rintro e w' ⟨rfl, ⟨nd, rfl⟩⟩) | (go_at_call 39; (with_reducible refine (vernierlaw27_told.calls pa pe al wa true _ T1.out).mono ?_); rintro e w' ⟨rfl, ⟨nd, rfl⟩⟩) | (go_at_call 39; (with_reducible refine (vernierlaw27_told.calls ta te _ wb true _ T2.out).mono ?_); rintro e w' ⟨rfl, ⟨nd, rfl⟩⟩) | (go_at_call 39; (with_reducible refine (vernierlaw27_told.calls la le _ wc_ true _ T3.out).mono ?_); rintro e w' ⟨rfl, ⟨nd, rfl⟩⟩) | (go_at_call 39; (with_reducible refine (vernierlaw27_told.calls ca ce _ wd true _ T4.out).mono ?_); rintro e w' ⟨rfl, ⟨nd, rfl⟩⟩) | (go_at_call 39; (with_reducible refine (vernierlaw27_told.calls xa xe al wx true _ T5.out).mono ?_); rintro e w' ⟨rfl, ⟨nd, rfl⟩⟩) | (go_at_call 39; (with_reducible refine (vernierlaw27_told.calls ya ye al wy true _ T6.out).mono ?_); rintro e w' ⟨rfl, ⟨nd, rfl⟩⟩))
                    go_ret
                    exact ⟨rfl, (by repeat (first | (with_reducible first | exact HB.out | apply below_alloc | apply pw_below_drewN | apply below_drew1) | exact HB.out))⟩
end Go.Proofs.Ythmakmmfbdmdfaa.OwnTells
