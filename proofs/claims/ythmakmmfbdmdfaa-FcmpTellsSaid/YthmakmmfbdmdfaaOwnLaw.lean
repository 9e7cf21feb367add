/- The law FcmpTells, walked. -/
import Derived.Test.YthmakmmfbdmdfaaOwnOrd
set_option linter.unusedVariables false
set_option linter.unusedSimpArgs false
namespace Go.Proofs.Ythmakmmfbdmdfaa.OwnNum
open Go.RowKit Go.Proofs.Ythmakmmfbdmdfaa.PFcmpTells Go.Proofs.Ythmakmmfbdmdfaa.OwnDig Go.Proofs.YthmakmmfbdmdfaaW.PrintWords Go.Proofs.YthmakmmfbdmdfaaW.PrintLast Go.Proofs.YthmakmmfbdmdfaaW.PrintMore
attribute [local go_sem] max2_int min2_int max_two min_two max_three min_three max_four min_four

set_option maxHeartbeats 800000 in
set_option maxRecDepth 100000 in
theorem order_inf (j : Nat) (a b x y ra rb : Int) (w : World)
    (HX : Aside0 (vernierref06_Class.f j a = some x)) (HY : Aside0 (vernierref06_Class.f j b = some y)) (h : x = 2 ∨ y = 2)
    (RA : Aside0 (vernierlaw12_rank.f j a = some ra)) (RB : Aside0 (vernierlaw12_rank.f j b = some rb)) (ha : -1 ≤ ra ∧ ra ≤ 1) (hb : -1 ≤ rb ∧ rb ≤ 1) :
    Calls Try.prog 15 #[.int .u64 a, .int .u64 b] w fun e w' => e = .returned (.int .i64 (ra - rb)) ∧ Below w.heap.size w w' := by
  have HB := Aside0.mk (Below.refl w.heap.size w)
  obtain ⟨ha0, ha1⟩ := ha
  obtain ⟨hb0, hb1⟩ := hb
  by_cases hx : x = 2
  · have b1 : (x == 2) = true := by simpa using hx
    clear hx h
    go_enter Try.func15, Try.ntmps15
    go_wp2_with (first | (go_at_call 12; (with_reducible refine (vernierref06_Class.calls j a x _ HX.out).mono ?_); rintro e w' ⟨rfl, ⟨nd, rfl⟩⟩) | (go_at_call 12; (with_reducible refine (vernierref06_Class.calls j b y _ HY.out).mono ?_); rintro e w' ⟨rfl, ⟨nd, rfl⟩⟩) | (go_at_call 42; (with_reducible refine (vernierlaw12_rank.calls j a ra _ RA.out).mono ?_); rintro e w' ⟨rfl, ⟨nd, rfl⟩⟩) | (go_at_call 42; (with_reducible refine (vernierlaw12_rank.calls j b rb _ RB.out).mono ?_); rintro e w' ⟨rfl, ⟨nd, rfl⟩⟩))
    go_ret
    exact ⟨rfl, pw_below_drewN HB.out _⟩
  · have b1 : (x == 2) = false := by simpa using hx
    have b2 : (y == 2) = true := by simpa using h.resolve_left hx
    clear hx h
    go_enter Try.func15, Try.ntmps15
    go_wp2_with (first | (go_at_call 12; (with_reducible refine (vernierref06_Class.calls j a x _ HX.out).mono ?_); rintro e w' ⟨rfl, ⟨nd, rfl⟩⟩) | (go_at_call 12; (with_reducible refine (vernierref06_Class.calls j b y _ HY.out).mono ?_); rintro e w' ⟨rfl, ⟨nd, rfl⟩⟩) | (go_at_call 42; (with_reducible refine (vernierlaw12_rank.calls j a ra _ RA.out).mono ?_); rintro e w' ⟨rfl, ⟨nd, rfl⟩⟩) | (go_at_call 42; (with_reducible refine (vernierlaw12_rank.calls j b rb _ RB.out).mono ?_); rintro e w' ⟨rfl, ⟨nd, rfl⟩⟩))
    go_ret
    exact ⟨rfl, pw_below_drewN HB.out _⟩

set_option maxHeartbeats 800000 in
set_option maxRecDepth 100000 in
theorem tells_nan (j : Nat) (a b x y : Int) (w : World)
    (HC : Aside0 (fcmp_Cmp.f j a b = some (0, false))) (HL : Aside0 (fcmp_Less.f j a b = some false)) (HA : Aside0 (vernierlaw12_alive.f j = some true))
    (HX : Aside0 (vernierref06_Class.f j a = some x)) (HY : Aside0 (vernierref06_Class.f j b = some y)) (h : x = 3 ∨ y = 3) :
    Calls Try.prog 3 #[.int .u64 a, .int .u64 b] w fun e w' => e = .returned (.bool true) ∧ Below w.heap.size w w' := by
  have HB := Aside0.mk (Below.refl w.heap.size w)
  by_cases hx : x = 3
  · have b1 : (x == 3) = true := by simpa using hx
    clear hx h
    go_enter Try.func3, Try.ntmps3
    go_wp2_with (first | (go_at_call 11; (with_reducible refine (fcmp_Cmp.calls j a b _ _ _ HC.out).mono ?_); rintro e w' ⟨rfl, ⟨nd, rfl⟩⟩) | (go_at_call 13; (with_reducible refine (fcmp_Less.calls j a b _ _ HL.out).mono ?_); rintro e w' ⟨rfl, ⟨nd, rfl⟩⟩) | (go_at_call 14; (with_reducible refine (vernierlaw12_alive.calls j _ _ HA.out).mono ?_); rintro e w' ⟨rfl, ⟨nd, rfl⟩⟩) | (go_at_call 12; (with_reducible refine (vernierref06_Class.calls j a x _ HX.out).mono ?_); rintro e w' ⟨rfl, ⟨nd, rfl⟩⟩) | (go_at_call 12; (with_reducible refine (vernierref06_Class.calls j b y _ HY.out).mono ?_); rintro e w' ⟨rfl, ⟨nd, rfl⟩⟩))
    go_ret
    exact ⟨rfl, pw_below_drewN HB.out _⟩
  · have b1 : (x == 3) = false := by simpa using hx
    have b2 : (y == 3) = true := by simpa using h.resolve_left hx
    clear hx h
    go_enter Try.func3, Try.ntmps3
    go_wp2_with (first | (go_at_call 11; (with_reducible refine (fcmp_Cmp.calls j a b _ _ _ HC.out).mono ?_); rintro e w' ⟨rfl, ⟨nd, rfl⟩⟩) | (go_at_call 13; (with_reducible refine (fcmp_Less.calls j a b _ _ HL.out).mono ?_); rintro e w' ⟨rfl, ⟨nd, rfl⟩⟩) | (go_at_call 14; (with_reducible refine (vernierlaw12_alive.calls j _ _ HA.out).mono ?_); rintro e w' ⟨rfl, ⟨nd, rfl⟩⟩) | (go_at_call 12; (with_reducible refine (vernierref06_Class.calls j a x _ HX.out).mono ?_); rintro e w' ⟨rfl, ⟨nd, rfl⟩⟩) | (go_at_call 12; (with_reducible refine (vernierref06_Class.calls j b y _ HY.out).mono ?_); rintro e w' ⟨rfl, ⟨nd, rfl⟩⟩))
    go_ret
    exact ⟨rfl, pw_below_drewN HB.out _⟩

/-- what 'order' must tell -/
def Ordered (a b s : Int) : Prop := ∀ W : World, Calls Try.prog 15 #[.int .u64 a, .int .u64 b] W fun e w' => ∃ r, e = .returned (.int .i64 r) ∧ -2 ≤ r ∧ r ≤ 2 ∧ sgn r 0 = s ∧ Below W.heap.size W w'

set_option maxHeartbeats 800000 in
set_option maxRecDepth 100000 in
theorem tells_num (j : Nat) (a b x y s : Int) (lt : Bool) (w : World)
    (HC : Aside0 (fcmp_Cmp.f j a b = some (s, true))) (HL : Aside0 (fcmp_Less.f j a b = some lt)) (HA : Aside0 (vernierlaw12_alive.f j = some true))
    (HX : Aside0 (vernierref06_Class.f j a = some x)) (HY : Aside0 (vernierref06_Class.f j b = some y)) (hx : x ≠ 3) (hy : y ≠ 3) (hlt : lt = decide (s < 0)) (HO : Ordered a b s) :
    Calls Try.prog 3 #[.int .u64 a, .int .u64 b] w fun e w' => e = .returned (.bool true) ∧ Below w.heap.size w w' := by
  have HB := Aside0.mk (Below.refl w.heap.size w)
  have b1 : (x == 3) = false := by simpa using hx
  have b2 : (y == 3) = false := by simpa using hy
  have HT := Aside0.mk hlt
  clear hx hy hlt
  go_enter Try.func3, Try.ntmps3
  go_wp2_with (first | (go_at_call 11; (with_reducible refine (fcmp_Cmp.calls j a b _ _ _ HC.out).mono ?_); rintro e w' ⟨rfl, ⟨nd, rfl⟩⟩) | (go_at_call 12; (with_reducible refine (vernierref06_Class.calls j a x _ HX.out).mono ?_); rintro e w' ⟨rfl, ⟨nd, rfl⟩⟩) | (go_at_call 12; (with_reducible refine (vernierref06_Class.calls j b y _ HY.out).mono ?_); rintro e w' ⟨rfl, ⟨nd, rfl⟩⟩))
  refine (HO _).mono ?_
  rintro e w1 ⟨r, rfl, r0, r1, hr, hb⟩
  have HB1 := Aside0.mk (below_step (pw_below_drewN HB.out _) hb)
  clear HB hb
  rcases Int.lt_trichotomy r 0 with h | h | h
  · obtain rfl : s = -1 := by rw [← hr, sgn_lt h]
    obtain rfl : lt = true := by rw [HT.out]; rfl
    have t1 : decide (0 < r) = false := by simp; omega
    have t2 : decide (r < 0) = true := by simpa using h
    clear hr HT
    go_wp2_with (first | (go_at_call 13; (with_reducible refine (fcmp_Less.calls j a b _ _ HL.out).mono ?_); rintro e w' ⟨rfl, ⟨nd, rfl⟩⟩) | (go_at_call 14; (with_reducible refine (vernierlaw12_alive.calls j _ _ HA.out).mono ?_); rintro e w' ⟨rfl, ⟨nd, rfl⟩⟩))
    go_ret
    exact ⟨rfl, by repeat (first | exact HB1.out | apply pw_below_drewN)⟩
  · obtain rfl : s = 0 := by rw [← hr, sgn_eq h]
    obtain rfl : lt = false := by rw [HT.out]; rfl
    subst h
    clear hr HT
    go_wp2_with (first | (go_at_call 13; (with_reducible refine (fcmp_Less.calls j a b _ _ HL.out).mono ?_); rintro e w' ⟨rfl, ⟨nd, rfl⟩⟩) | (go_at_call 14; (with_reducible refine (vernierlaw12_alive.calls j _ _ HA.out).mono ?_); rintro e w' ⟨rfl, ⟨nd, rfl⟩⟩))
    go_ret
    exact ⟨rfl, by repeat (first | exact HB1.out | apply pw_below_drewN)⟩
  · obtain rfl : s = 1 := by rw [← hr, sgn_gt h]
    obtain rfl : lt = false := by rw [HT.out]; rfl
    have t1 : decide (0 < r) = true := by simpa using h
    clear hr HT
    go_wp2_with (first | (go_at_call 13; (with_reducible refine (fcmp_Less.calls j a b _ _ HL.out).mono ?_); rintro e w' ⟨rfl, ⟨nd, rfl⟩⟩) | (go_at_call 14; (with_reducible refine (vernierlaw12_alive.calls j _ _ HA.out).mono ?_); rintro e w' ⟨rfl, ⟨nd, rfl⟩⟩))
    go_ret
    exact ⟨rfl, by repeat (first | exact HB1.out | apply pw_below_drewN)⟩
end Go.Proofs.Ythmakmmfbdmdfaa.OwnNum
