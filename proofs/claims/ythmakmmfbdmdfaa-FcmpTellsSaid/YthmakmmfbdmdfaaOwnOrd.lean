/- Which one of two numbers is greater, by the exact ones: walked. -/
import Derived.Test.YthmakmmfbdmdfaaOwnShl
set_option linter.unusedVariables false
set_option linter.unusedSimpArgs false
namespace Go.Proofs.Ythmakmmfbdmdfaa.OwnNum
open Go.RowKit Go.Proofs.Ythmakmmfbdmdfaa.PFcmpTells Go.Proofs.Ythmakmmfbdmdfaa.OwnDig Go.Proofs.YthmakmmfbdmdfaaW.PrintWords Go.Proofs.YthmakmmfbdmdfaaW.PrintLast Go.Proofs.YthmakmmfbdmdfaaW.PrintMore
attribute [local go_sem] max2_int min2_int max_two min_two max_three min_three max_four min_four

/-- what the exact ones tell -/
def tells (s t : Bool) (m k c : Int) : Int := if m = 0 ∧ k = 0 then 0 else if s = true ∧ t = false then -1 else if t = true ∧ s = false then 1 else if s = true then -c else c

set_option maxHeartbeats 800000 in
set_option maxRecDepth 100000 in
theorem order_fin (j : Nat) (a b x y m k p q : Int) (s t : Bool) (w : World)
    (HX : Aside0 (vernierref06_Class.f j a = some x)) (HY : Aside0 (vernierref06_Class.f j b = some y)) (hx : x ≠ 2) (hy : y ≠ 2)
    (SA : Aside0 (vernierref06_Split.f a = some (s, m, p))) (SB : Aside0 (vernierref06_Split.f b = some (t, k, q)))
    (hm0 : 0 ≤ m) (hm1 : m < 18446744073709551616) (hk0 : 0 ≤ k) (hk1 : k < 18446744073709551616) (hp0 : -1074 ≤ p) (hp1 : p ≤ 971) (hq0 : -1074 ≤ q) (hq1 : q ≤ 971) :
    Calls Try.prog 15 #[.int .u64 a, .int .u64 b] w fun e w' => e = .returned (.int .i64 (tells s t m k (sgn (m * 2 ^ (p - mn p q).toNat) (k * 2 ^ (q - mn p q).toNat)))) ∧ Below w.heap.size w w' := by
  have HB := Aside0.mk (Below.refl w.heap.size w)
  have b1 : (x == 2) = false := by simpa using hx
  have b2 : (y == 2) = false := by simpa using hy
  have n1 : mn p q ≤ p := by unfold mn; split <;> omega
  have n2 : mn p q ≤ q := by unfold mn; split <;> omega
  have n3 : -1074 ≤ mn p q := by unfold mn; split <;> omega
  have HM := Aside0.mk hm1
  have HK := Aside0.mk hk1
  clear hx hy hm1 hk1
  go_enter Try.func15, Try.ntmps15
  go_wp2_with (first | (go_at_call 12; (with_reducible refine (vernierref06_Class.calls j a x _ HX.out).mono ?_); rintro e w' ⟨rfl, ⟨nd, rfl⟩⟩) | (go_at_call 12; (with_reducible refine (vernierref06_Class.calls j b y _ HY.out).mono ?_); rintro e w' ⟨rfl, ⟨nd, rfl⟩⟩) | (go_at_call 43; (with_reducible refine (vernierref06_Split.calls a s m p _ SA.out).mono ?_); rintro e w' ⟨rfl, ⟨nd, rfl⟩⟩) | (go_at_call 43; (with_reducible refine (vernierref06_Split.calls b t k q _ SB.out).mono ?_); rintro e w' ⟨rfl, ⟨nd, rfl⟩⟩))
  · have hmn : mn p q = q := by unfold mn; rw [if_pos (by omega)]
    have HE := Aside0.mk hmn
    clear hmn n1 n2 n3
    refine (word_calls m _ hm0 HM.out).mono ?_
    rintro e w1 ⟨v1, L1, rfl, ho1, hb1, hd1, ht1, hv1, hn1⟩
    have HB1 := Aside0.mk (below_step (pw_below_drewN HB.out _) hb1)
    have HO1 := Aside0.mk (Kd.R_lower ho1 (below_size (pw_below_drewN HB.out _)))
    obtain ⟨A1, c1, rfl⟩ := Kd.R_slice HO1.out
    have HF1 := Aside0.mk (And.intro hd1 (And.intro hv1 hn1))
    clear HB ho1 hb1 hd1 ht1 hv1 hn1
    go_wp2_with fail
    refine (shl_calls A1 c1 L1 (p - q) _ (by have := HF1.out.2.2; omega) (by omega) (by omega) HF1.out.1 (Kd.R_reads' HO1.out).2.2).mono ?_
    rintro e w2 ⟨v2, L2, rfl, ho2, hb2, hd2, ht2, hv2, hn2⟩
    have HB2 := Aside0.mk (below_step HB1.out hb2)
    have HO2 := Aside0.mk (Kd.R_lower ho2 (below_size HB1.out))
    obtain ⟨A2, c2, rfl⟩ := Kd.R_slice HO2.out
    have HF2 := Aside0.mk (And.intro hd2 (And.intro ht2 (And.intro (show val L2 = m * 2 ^ (p - q : Int).toNat by rw [hv2, HF1.out.2.1]) hn2)))
    clear HB1 HO1 HF1 ho2 hb2 hd2 ht2 hv2 hn2
    go_wp2_with fail
    refine (word_calls k _ hk0 HK.out).mono ?_
    rintro e w3 ⟨v3, L3, rfl, ho3, hb3, hd3, ht3, hv3, hn3⟩
    have HO2' := Aside0.mk (Kd.R_below HO2.out hb3)
    have HB3 := Aside0.mk (below_step HB2.out hb3)
    have HO3 := Aside0.mk (Kd.R_lower ho3 (below_size HB2.out))
    obtain ⟨A3, c3, rfl⟩ := Kd.R_slice HO3.out
    have HF3 := Aside0.mk (And.intro hd3 (And.intro hv3 hn3))
    clear HB2 HO2 ho3 hb3 hd3 ht3 hv3 hn3
    go_wp2_with fail
    refine (shl_calls A3 c3 L3 (0) _ (by have := HF3.out.2.2; omega) (by omega) (by omega) HF3.out.1 (Kd.R_reads' HO3.out).2.2).mono ?_
    rintro e w4 ⟨v4, L4, rfl, ho4, hb4, hd4, ht4, hv4, hn4⟩
    have HO2 := Aside0.mk (Kd.R_below HO2'.out hb4)
    have HB4 := Aside0.mk (below_step HB3.out hb4)
    have HO4 := Aside0.mk (Kd.R_lower ho4 (below_size HB3.out))
    obtain ⟨A4, c4, rfl⟩ := Kd.R_slice HO4.out
    have HF4 := Aside0.mk (And.intro hd4 (And.intro ht4 (And.intro (show val L4 = k * 2 ^ (0 : Int).toNat by rw [hv4, HF3.out.2.1]) hn4)))
    clear HB3 HO2' HO3 HF3 ho4 hb4 hd4 ht4 hv4 hn4
    go_wp2_with fail
    refine (cmp_calls A2 A4 c2 c4 L2 L4 _ (by have := HF2.out.2.2.2; omega) (by have := HF4.out.2.2.2; omega) HF2.out.1 HF4.out.1 HF2.out.2.1 HF4.out.2.1 (Kd.R_reads' HO2.out).2.2 (Kd.R_reads' HO4.out).2.2).mono ?_
    rintro e w5 ⟨rfl, ⟨nd, rfl⟩⟩
    have HB := Aside0.mk (pw_below_drewN HB4.out nd)
    have HC := Aside0.mk (show sgn (val L2) (val L4) = sgn (m * 2 ^ (p - mn p q).toNat) (k * 2 ^ (q - mn p q).toNat) by
      rw [HE.out, HF2.out.2.2.1, HF4.out.2.2.1]
      congr 3 <;> omega)
    clear HF2 HF4 HO2 HO4 HB4 HE
    obtain ⟨c, hc⟩ : ∃ c, sgn (val L2) (val L4) = c := ⟨_, rfl⟩
    rw [hc]
    have HCC := Aside0.mk (show sgn (m * 2 ^ (p - mn p q).toNat) (k * 2 ^ (q - mn p q).toNat) = c by rw [← HC.out]; exact hc)
    have cb : -1 ≤ c ∧ c ≤ 1 := by rw [← hc]; unfold sgn; split <;> (try split) <;> omega
    obtain ⟨cb0, cb1⟩ := cb
    clear HC hc
    by_cases zm : m = 0
    · have zmb : (m == 0) = true := by simpa using zm
      by_cases zk : k = 0
      · have zkb : (k == 0) = true := by simpa using zk
        have HT := Aside0.mk (show tells s t m k c = 0 by simp [tells, zm, zk])
        clear zm zk
        go_wp2
        go_ret
        exact ⟨by rw [HCC.out, HT.out] <;> rfl, HB.out⟩
      · have zkb : (k == 0) = false := by simpa using zk
        have HT := Aside0.mk (fun s t (c : Int) => (show tells s t m k c = (if s = true ∧ t = false then -1 else if t = true ∧ s = false then 1 else if s = true then -c else c) by simp [tells, zk]))
        clear zm zk
        cases s <;> cases t
        all_goals
          go_wp2
          go_ret
          exact ⟨by rw [HCC.out, HT.out] <;> rfl, HB.out⟩
    · have zmb : (m == 0) = false := by simpa using zm
      have HT := Aside0.mk (fun s t (c : Int) => (show tells s t m k c = (if s = true ∧ t = false then -1 else if t = true ∧ s = false then 1 else if s = true then -c else c) by simp [tells, zm]))
      clear zm
      cases s <;> cases t
      all_goals
        go_wp2
        go_ret
        exact ⟨by rw [HCC.out, HT.out] <;> rfl, HB.out⟩
  · have hmn : mn p q = p := by unfold mn; rw [if_neg (by omega)]
    have HE := Aside0.mk hmn
    clear hmn n1 n2 n3
    refine (word_calls m _ hm0 HM.out).mono ?_
    rintro e w1 ⟨v1, L1, rfl, ho1, hb1, hd1, ht1, hv1, hn1⟩
    have HB1 := Aside0.mk (below_step (pw_below_drewN HB.out _) hb1)
    have HO1 := Aside0.mk (Kd.R_lower ho1 (below_size (pw_below_drewN HB.out _)))
    obtain ⟨A1, c1, rfl⟩ := Kd.R_slice HO1.out
    have HF1 := Aside0.mk (And.intro hd1 (And.intro hv1 hn1))
    clear HB ho1 hb1 hd1 ht1 hv1 hn1
    go_wp2_with fail
    refine (shl_calls A1 c1 L1 (0) _ (by have := HF1.out.2.2; omega) (by omega) (by omega) HF1.out.1 (Kd.R_reads' HO1.out).2.2).mono ?_
    rintro e w2 ⟨v2, L2, rfl, ho2, hb2, hd2, ht2, hv2, hn2⟩
    have HB2 := Aside0.mk (below_step HB1.out hb2)
    have HO2 := Aside0.mk (Kd.R_lower ho2 (below_size HB1.out))
    obtain ⟨A2, c2, rfl⟩ := Kd.R_slice HO2.out
    have HF2 := Aside0.mk (And.intro hd2 (And.intro ht2 (And.intro (show val L2 = m * 2 ^ (0 : Int).toNat by rw [hv2, HF1.out.2.1]) hn2)))
    clear HB1 HO1 HF1 ho2 hb2 hd2 ht2 hv2 hn2
    go_wp2_with fail
    refine (word_calls k _ hk0 HK.out).mono ?_
    rintro e w3 ⟨v3, L3, rfl, ho3, hb3, hd3, ht3, hv3, hn3⟩
    have HO2' := Aside0.mk (Kd.R_below HO2.out hb3)
    have HB3 := Aside0.mk (below_step HB2.out hb3)
    have HO3 := Aside0.mk (Kd.R_lower ho3 (below_size HB2.out))
    obtain ⟨A3, c3, rfl⟩ := Kd.R_slice HO3.out
    have HF3 := Aside0.mk (And.intro hd3 (And.intro hv3 hn3))
    clear HB2 HO2 ho3 hb3 hd3 ht3 hv3 hn3
    go_wp2_with fail
    refine (shl_calls A3 c3 L3 (q - p) _ (by have := HF3.out.2.2; omega) (by omega) (by omega) HF3.out.1 (Kd.R_reads' HO3.out).2.2).mono ?_
    rintro e w4 ⟨v4, L4, rfl, ho4, hb4, hd4, ht4, hv4, hn4⟩
    have HO2 := Aside0.mk (Kd.R_below HO2'.out hb4)
    have HB4 := Aside0.mk (below_step HB3.out hb4)
    have HO4 := Aside0.mk (Kd.R_lower ho4 (below_size HB3.out))
    obtain ⟨A4, c4, rfl⟩ := Kd.R_slice HO4.out
    have HF4 := Aside0.mk (And.intro hd4 (And.intro ht4 (And.intro (show val L4 = k * 2 ^ (q - p : Int).toNat by rw [hv4, HF3.out.2.1]) hn4)))
    clear HB3 HO2' HO3 HF3 ho4 hb4 hd4 ht4 hv4 hn4
    go_wp2_with fail
    refine (cmp_calls A2 A4 c2 c4 L2 L4 _ (by have := HF2.out.2.2.2; omega) (by have := HF4.out.2.2.2; omega) HF2.out.1 HF4.out.1 HF2.out.2.1 HF4.out.2.1 (Kd.R_reads' HO2.out).2.2 (Kd.R_reads' HO4.out).2.2).mono ?_
    rintro e w5 ⟨rfl, ⟨nd, rfl⟩⟩
    have HB := Aside0.mk (pw_below_drewN HB4.out nd)
    have HC := Aside0.mk (show sgn (val L2) (val L4) = sgn (m * 2 ^ (p - mn p q).toNat) (k * 2 ^ (q - mn p q).toNat) by
      rw [HE.out, HF2.out.2.2.1, HF4.out.2.2.1]
      congr 3 <;> omega)
    clear HF2 HF4 HO2 HO4 HB4 HE
    obtain ⟨c, hc⟩ : ∃ c, sgn (val L2) (val L4) = c := ⟨_, rfl⟩
    rw [hc]
    have HCC := Aside0.mk (show sgn (m * 2 ^ (p - mn p q).toNat) (k * 2 ^ (q - mn p q).toNat) = c by rw [← HC.out]; exact hc)
    have cb : -1 ≤ c ∧ c ≤ 1 := by rw [← hc]; unfold sgn; split <;> (try split) <;> omega
    obtain ⟨cb0, cb1⟩ := cb
    clear HC hc
    by_cases zm : m = 0
    · have zmb : (m == 0) = true := by simpa using zm
      by_cases zk : k = 0
      · have zkb : (k == 0) = true := by simpa using zk
        have HT := Aside0.mk (show tells s t m k c = 0 by simp [tells, zm, zk])
        clear zm zk
        go_wp2
        go_ret
        exact ⟨by rw [HCC.out, HT.out] <;> rfl, HB.out⟩
      · have zkb : (k == 0) = false := by simpa using zk
        have HT := Aside0.mk (fun s t (c : Int) => (show tells s t m k c = (if s = true ∧ t = false then -1 else if t = true ∧ s = false then 1 else if s = true then -c else c) by simp [tells, zk]))
        clear zm zk
        cases s <;> cases t
        all_goals
          go_wp2
          go_ret
          exact ⟨by rw [HCC.out, HT.out] <;> rfl, HB.out⟩
    · have zmb : (m == 0) = false := by simpa using zm
      have HT := Aside0.mk (fun s t (c : Int) => (show tells s t m k c = (if s = true ∧ t = false then -1 else if t = true ∧ s = false then 1 else if s = true then -c else c) by simp [tells, zm]))
      clear zm
      cases s <;> cases t
      all_goals
        go_wp2
        go_ret
        exact ⟨by rw [HCC.out, HT.out] <;> rfl, HB.out⟩
end Go.Proofs.Ythmakmmfbdmdfaa.OwnNum
