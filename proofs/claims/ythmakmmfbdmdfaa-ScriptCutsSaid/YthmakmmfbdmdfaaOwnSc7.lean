/- Scripts, walked: same, of one list. -/
import Derived.Test.YthmakmmfbdmdfaaOwnSc6
import Derived.Test.YthmakmmfbdmdfaaOwnLex
set_option linter.unusedVariables false
set_option linter.unusedSimpArgs false
namespace Go.Proofs.Ythmakmmfbdmdfaa.OwnSc
open Go.RowKit Go.Proofs.Ythmakmmfbdmdfaa.PScriptBack Go.Proofs.YthmakmmfbdmdfaaW.PrintWords Go.Proofs.YthmakmmfbdmdfaaW.PrintLast Go.Proofs.YthmakmmfbdmdfaaW.PrintMore
attribute [local go_sem] max2_int min2_int max_two min_two max_three min_three max_four min_four

theorem same_l0 (l : List Int) (hl : l.length ≤ 1000000) : ∀ (d k i : Nat), d < k → i + d = l.length → vernierref01_Same.l0 k l l i = some true := by
  intro d
  induction d with
  | zero =>
    intro k i hk hi
    obtain ⟨k, rfl⟩ : ∃ j, k = j + 1 := ⟨k - 1, by omega⟩
    simp only [vernierref01_Same.l0]
    rw [if_neg (by omega)]
  | succ d ih =>
    intro k i hk hi
    obtain ⟨k, rfl⟩ : ∃ j, k = j + 1 := ⟨k - 1, by omega⟩
    simp only [vernierref01_Same.l0]
    rw [if_pos (by omega), if_pos (by omega), if_pos (by omega), if_pos trivial, ww (by omega) (by omega)]
    exact ih k (i + 1) (by omega) (by omega)
theorem same_f (l : List Int) (hl : l.length ≤ 1000000) : vernierref01_Same.f (l.length + 1) l l = some true := by
  unfold vernierref01_Same.f
  rw [if_pos rfl]
  exact same_l0 l hl l.length _ 0 (by omega) (by omega)

set_option maxHeartbeats 1600000 in
set_option maxRecDepth 100000 in
theorem same_calls (A B : Option Addr) (c d : Nat) (l : List S53) (w : World) (hl : l.length ≤ 256) (hx : ∀ x ∈ l, x.f5.f2.length ≤ 4096) (ha : Kd.C k53 w A l.length l) (hb : Kd.C k53 w B l.length l) :
    Calls Try.prog 30 #[.slice A l.length c, .slice B l.length d] w fun e w' => e = .returned (.bool true) ∧ Below w.heap.size w w' := by
  have HA := Aside0.mk ha
  have HB := Aside0.mk hb
  have HX := Aside0.mk hx
  have HW := Aside0.mk (Below.refl w.heap.size w)
  clear ha hb hx
  go_enter Try.func30, Try.ntmps30
  go_wp2
  go_loopw [5] (fun v5 wr => ∃ i : Nat, i ≤ l.length ∧ v5 = .int .i64 i ∧ Aside0 (Below w.heap.size w wr)) (fun v5 _ => l.length - (intOf v5).toNat)
  case atStart => exact ⟨0, Nat.zero_le _, rfl, HW⟩
  case round =>
    clear HW
    obtain ⟨i, hi, rfl, HW⟩ := hrel
    by_cases h0 : i < l.length
    · have b1 : decide (i < l.length) = true := decide_eq_true h0
      have b2 : decide ((i : Int) < l.length) = true := decide_eq_true (by omega)
      have hii : (i : Int) < l.length := by omega
      obtain ⟨ad, A7, c7, rfl, a0, a1, a2, a3, a4, a5, a6, a7, al, ac⟩ := at_T53 (Kd.C_below HA.out HW.out) (i : Int) (by omega) hii
      obtain ⟨bd, B7, d7, rfl, e0, e1, e2, e3, e4, e5, e6, e7, el, ec⟩ := at_T53 (Kd.C_below HB.out HW.out) (i : Int) (by omega) hii
      rw [Int.toNat_natCast] at a0 a1 a2 a3 a4 a5 a6 a7 e0 e1 e2 e3 e4 e5 e6 e7
      obtain ⟨x, hx⟩ : ∃ x, x = rd_T53 l i := ⟨_, rfl⟩
      rw [← hx] at a0 a1 a2 a3 a4 a5 a6 a7 al ac e0 e1 e2 e3 e4 e5 e6 e7 el ec
      have hxl : x.f5.f2.length ≤ 4096 := HX.out x (by rw [hx]; simp only [rd_T53, Int.toNat_natCast, List.getD_eq_getElem?_getD, List.getElem?_eq_getElem h0, Option.getD_some]; exact List.getElem_mem _)
      have AC := Aside0.mk ac
      have EC := Aside0.mk ec
      have AL := Aside0.mk al
      have EL := Aside0.mk el
      have HS := Aside0.mk (show ∀ n, Calls Try.prog 61 #[.slice A7 x.f5.f2.length c7, .slice B7 x.f5.f2.length d7] (wr.drewN n) fun e w' => e = .returned (.bool true) ∧ ∃ m, w' = wr.drewN m from fun n =>
        (vernierref01_Same.calls _ A7 c7 x.f5.f2 B7 d7 x.f5.f2 true _ (Kd.C_below ac (pw_below_drewN (Below.refl _ _) n)) al (Kd.C_below ec (pw_below_drewN (Below.refl _ _) n)) el (same_f _ (by omega))).mono (by
          rintro e w' ⟨rfl, m, rfl⟩; exact ⟨rfl, n + m, by rw [World.drewN_drewN]⟩))
      clear ac ec al el hx
      go_wp2_with fail
      simp only [List.append_eq, List.cons_append, List.nil_append]
      refine wp_region_quiet_lit ?_ ?_ ?_
      · as_aux_lemma => kernel_rfl
      · refine OwnLex.lexB_of (N := 109) ?_ ?_ ?_ ?_
        · as_aux_lemma => kernel_rfl
        · as_aux_lemma => kernel_rfl
        · as_aux_lemma => kernel_rfl
        · refine OwnLex.all_cut 0 (fun j hj => absurd hj (by omega)) ?_
          refine OwnLex.range_cut 6 (by as_aux_lemma => kernel_rfl) ?_
          refine OwnLex.range_cut 6 (by as_aux_lemma => kernel_rfl) ?_
          refine OwnLex.range_cut 6 (by as_aux_lemma => kernel_rfl) ?_
          refine OwnLex.range_cut 6 (by as_aux_lemma => kernel_rfl) ?_
          refine OwnLex.range_cut 6 (by as_aux_lemma => kernel_rfl) ?_
          refine OwnLex.range_cut 6 (by as_aux_lemma => kernel_rfl) ?_
          refine OwnLex.range_cut 6 (by as_aux_lemma => kernel_rfl) ?_
          refine OwnLex.range_cut 6 (by as_aux_lemma => kernel_rfl) ?_
          refine OwnLex.range_cut 6 (by as_aux_lemma => kernel_rfl) ?_
          refine OwnLex.range_cut 6 (by as_aux_lemma => kernel_rfl) ?_
          refine OwnLex.range_cut 6 (by as_aux_lemma => kernel_rfl) ?_
          refine OwnLex.range_cut 6 (by as_aux_lemma => kernel_rfl) ?_
          refine OwnLex.range_cut 6 (by as_aux_lemma => kernel_rfl) ?_
          refine OwnLex.range_cut 6 (by as_aux_lemma => kernel_rfl) ?_
          refine OwnLex.range_cut 6 (by as_aux_lemma => kernel_rfl) ?_
          refine OwnLex.range_cut 6 (by as_aux_lemma => kernel_rfl) ?_
          refine OwnLex.range_cut 6 (by as_aux_lemma => kernel_rfl) ?_
          refine OwnLex.range_cut 6 (by as_aux_lemma => kernel_rfl) ?_
          exact OwnLex.range_end 1 rfl (by as_aux_lemma => kernel_rfl)
      · as_aux_lemma =>
          (go_big_quiet_step ((go_at_call 61; exact HS.out _)); go_big_quiet_step ((go_at_call 61; exact HS.out _)); go_big_quiet_step ((go_at_call 61; exact HS.out _)); go_big_quiet_step ((go_at_call 61; exact HS.out _)); go_big_quiet_step ((go_at_call 61; exact HS.out _)); go_big_quiet_step ((go_at_call 61; exact HS.out _)); go_big_quiet_step ((go_at_call 61; exact HS.out _)); go_big_quiet_step ((go_at_call 61; exact HS.out _)); go_big_quiet_step ((go_at_call 61; exact HS.out _)); go_big_quiet_step ((go_at_call 61; exact HS.out _)); go_big_quiet_step ((go_at_call 61; exact HS.out _)); go_big_quiet_step ((go_at_call 61; exact HS.out _)); go_big_quiet_step ((go_at_call 61; exact HS.out _)); go_big_quiet_step ((go_at_call 61; exact HS.out _)); go_big_quiet_step ((go_at_call 61; exact HS.out _)))
          as_aux_lemma =>
            (go_big_quiet_step ((go_at_call 61; exact HS.out _)); go_big_quiet_step ((go_at_call 61; exact HS.out _)); go_big_quiet_step ((go_at_call 61; exact HS.out _)); go_big_quiet_step ((go_at_call 61; exact HS.out _)); go_big_quiet_step ((go_at_call 61; exact HS.out _)); go_big_quiet_step ((go_at_call 61; exact HS.out _)); go_big_quiet_step ((go_at_call 61; exact HS.out _)); go_big_quiet_step ((go_at_call 61; exact HS.out _)); go_big_quiet_step ((go_at_call 61; exact HS.out _)); go_big_quiet_step ((go_at_call 61; exact HS.out _)); go_big_quiet_step ((go_at_call 61; exact HS.out _)); go_big_quiet_step ((go_at_call 61; exact HS.out _)); go_big_quiet_step ((go_at_call 61; exact HS.out _)); go_big_quiet_step ((go_at_call 61; exact HS.out _)); go_big_quiet_step ((go_at_call 61; exact HS.out _)))
            as_aux_lemma =>
              (go_big_quiet_step ((go_at_call 61; exact HS.out _)); go_big_quiet_step ((go_at_call 61; exact HS.out _)); go_big_quiet_step ((go_at_call 61; exact HS.out _)); go_big_quiet_step ((go_at_call 61; exact HS.out _)); go_big_quiet_step ((go_at_call 61; exact HS.out _)); go_big_quiet_step ((go_at_call 61; exact HS.out _)); go_big_quiet_step ((go_at_call 61; exact HS.out _)); go_big_quiet_step ((go_at_call 61; exact HS.out _)); go_big_quiet_step ((go_at_call 61; exact HS.out _)); go_big_quiet_step ((go_at_call 61; exact HS.out _)); go_big_quiet_step ((go_at_call 61; exact HS.out _)); go_big_quiet_step ((go_at_call 61; exact HS.out _)); go_big_quiet_step ((go_at_call 61; exact HS.out _)); go_big_quiet_step ((go_at_call 61; exact HS.out _)); go_big_quiet_step ((go_at_call 61; exact HS.out _)))
              as_aux_lemma =>
                (go_big_quiet_step ((go_at_call 61; exact HS.out _)); go_big_quiet_step ((go_at_call 61; exact HS.out _)); go_big_quiet_step ((go_at_call 61; exact HS.out _)); go_big_quiet_step ((go_at_call 61; exact HS.out _)); go_big_quiet_step ((go_at_call 61; exact HS.out _)); go_big_quiet_step ((go_at_call 61; exact HS.out _)); go_big_quiet_step ((go_at_call 61; exact HS.out _)); go_big_quiet_step ((go_at_call 61; exact HS.out _)); go_big_quiet_step ((go_at_call 61; exact HS.out _)); go_big_quiet_step ((go_at_call 61; exact HS.out _)); go_big_quiet_step ((go_at_call 61; exact HS.out _)); go_big_quiet_step ((go_at_call 61; exact HS.out _)); go_big_quiet_step ((go_at_call 61; exact HS.out _)); go_big_quiet_step ((go_at_call 61; exact HS.out _)); go_big_quiet_step ((go_at_call 61; exact HS.out _)))
                as_aux_lemma =>
                  (go_big_quiet_step ((go_at_call 61; exact HS.out _)); go_big_quiet_step ((go_at_call 61; exact HS.out _)); go_big_quiet_step ((go_at_call 61; exact HS.out _)); go_big_quiet_step ((go_at_call 61; exact HS.out _)); go_big_quiet_step ((go_at_call 61; exact HS.out _)); go_big_quiet_step ((go_at_call 61; exact HS.out _)); go_big_quiet_step ((go_at_call 61; exact HS.out _)); go_big_quiet_step ((go_at_call 61; exact HS.out _)); go_big_quiet_step ((go_at_call 61; exact HS.out _)); go_big_quiet_step ((go_at_call 61; exact HS.out _)); go_big_quiet_step ((go_at_call 61; exact HS.out _)); go_big_quiet_step ((go_at_call 61; exact HS.out _)); go_big_quiet_step ((go_at_call 61; exact HS.out _)); go_big_quiet_step ((go_at_call 61; exact HS.out _)); go_big_quiet_step ((go_at_call 61; exact HS.out _)))
                  as_aux_lemma =>
                    (go_big_quiet_step ((go_at_call 61; exact HS.out _)); go_big_quiet_step ((go_at_call 61; exact HS.out _)); go_big_quiet_step ((go_at_call 61; exact HS.out _)); go_big_quiet_step ((go_at_call 61; exact HS.out _)); go_big_quiet_step ((go_at_call 61; exact HS.out _)); go_big_quiet_step ((go_at_call 61; exact HS.out _)); go_big_quiet_step ((go_at_call 61; exact HS.out _)); go_big_quiet_step ((go_at_call 61; exact HS.out _)); go_big_quiet_step ((go_at_call 61; exact HS.out _)); go_big_quiet_step ((go_at_call 61; exact HS.out _)); go_big_quiet_step ((go_at_call 61; exact HS.out _)); go_big_quiet_step ((go_at_call 61; exact HS.out _)); go_big_quiet_step ((go_at_call 61; exact HS.out _)); go_big_quiet_step ((go_at_call 61; exact HS.out _)); go_big_quiet_step ((go_at_call 61; exact HS.out _)))
                    as_aux_lemma =>
                      (go_big_quiet_step ((go_at_call 61; exact HS.out _)); go_big_quiet_step ((go_at_call 61; exact HS.out _)); go_big_quiet_step ((go_at_call 61; exact HS.out _)); go_big_quiet_step ((go_at_call 61; exact HS.out _)); go_big_quiet_step ((go_at_call 61; exact HS.out _)); go_big_quiet_step ((go_at_call 61; exact HS.out _)); go_big_quiet_step ((go_at_call 61; exact HS.out _)); go_big_quiet_step ((go_at_call 61; exact HS.out _)); go_big_quiet_step ((go_at_call 61; exact HS.out _)); go_big_quiet_step ((go_at_call 61; exact HS.out _)); go_big_quiet_step ((go_at_call 61; exact HS.out _)); go_big_quiet_step ((go_at_call 61; exact HS.out _)); go_big_quiet_step ((go_at_call 61; exact HS.out _)); go_big_quiet_step ((go_at_call 61; exact HS.out _)); go_big_quiet_step ((go_at_call 61; exact HS.out _)))
                      as_aux_lemma =>
                        repeat (go_big_quiet_step ((go_at_call 61; exact HS.out _)))
                        refine wpQuiet_nil ?_
                        intro _ hw'
                        obtain ⟨nq, hw''⟩ := hw'
                        subst hw''
                        go_wp2
                        have HW2 := Aside0.mk (pw_below_drewN HW.out nq)
                        go_roundw
                        case rel => exact ⟨i + 1, by omega, by first | rfl | go_num, HW2⟩
                        case measure => (simp [intOf] <;> omega)
    · obtain rfl : i = l.length := by omega
      go_wp2
      go_ret
      exact ⟨rfl, HW.out⟩
end Go.Proofs.Ythmakmmfbdmdfaa.OwnSc
