/- Scripts, walked: may a step's numbers be? -/
import Derived.Test.YthmakmmfbdmdfaaPScriptBackx1
set_option linter.unusedVariables false
set_option linter.unusedSimpArgs false
namespace Go.Proofs.Ythmakmmfbdmdfaa.OwnSc
open Go.RowKit Go.Proofs.Ythmakmmfbdmdfaa.PScriptBack Go.Proofs.YthmakmmfbdmdfaaW.PrintWords Go.Proofs.YthmakmmfbdmdfaaW.PrintLast Go.Proofs.YthmakmmfbdmdfaaW.PrintMore
attribute [local go_sem] max2_int min2_int max_two min_two max_three min_three max_four min_four

/-- may a number not be? -/
def badN (n : Int) : Bool := decide (n < 0) || decide (255 < n)

set_option maxHeartbeats 400000 in
set_option maxRecDepth 100000 in
theorem bad_calls (n : Int) (w : World) : Calls Try.prog 77 #[.int .i64 n] w fun e w' => e = .returned (.bool (badN n)) ∧ w = w' := by
  by_cases h : n < 0
  · have h1 : decide (n < 0) = true := by simpa using h
    have HB := Aside0.mk (show badN n = true by simp [badN, h])
    clear h
    go_enter Try.func77, Try.ntmps77
    go_wp2
    go_ret
    exact ⟨by rw [HB.out] <;> rfl, rfl⟩
  · have h1 : decide (n < 0) = false := by simpa using h
    have HB := Aside0.mk (show badN n = decide (255 < n) by simp [badN, h])
    clear h
    go_enter Try.func77, Try.ntmps77
    go_wp2
    go_ret
    exact ⟨by rw [HB.out] <;> rfl, rfl⟩

/-- the first place, or -1 -/
def firstBad (l : List Int) : Nat → Int
  | 0 => -1
  | d + 1 => if badN (rd l ((l.length - (d + 1) : Nat) : Int)) then ((l.length - (d + 1) : Nat) : Int) else firstBad l d

set_option maxHeartbeats 400000 in
set_option maxRecDepth 100000 in
theorem index_calls (A : Option Addr) (c : Nat) (l : List Int) (w : World) (hl : l.length ≤ 1000) (hr : Kd.C (Kd.int .i64) w A l.length l) :
    Calls Try.prog 80 #[.slice A l.length c, .func (.func 77) #[] #[]] w fun e w' => e = .returned (.int .i64 (firstBad l l.length)) ∧ w = w' := by
  have HR := Aside0.mk hr
  clear hr
  go_enter Try.func80, Try.ntmps80
  go_wp2
  go_loop [8] (fun v8 => ∃ d : Nat, d ≤ l.length ∧ v8 = .int .i64 ((l.length : Int) - d) ∧ Aside0 (firstBad l l.length = firstBad l d)) (fun v8 => l.length - (intOf v8).toNat)
  case atStart => exact ⟨l.length, Nat.le_refl _, by simp, ⟨rfl⟩⟩
  case round =>
    obtain ⟨d, hd, rfl, HE⟩ := hrel
    cases d with
    | zero =>
      rw [show ((l.length : Int) - ((0 : Nat) : Int)) = (l.length : Int) from by omega]
      go_wp2
      go_ret
      exact ⟨by rw [HE.out] <;> rfl, rfl⟩
    | succ d =>
      obtain ⟨i, hi⟩ : ∃ i : Nat, l.length - (d + 1) = i := ⟨_, rfl⟩
      have hi2 : i < l.length := by omega
      rw [show ((l.length : Int) - ((d + 1 : Nat) : Int)) = (i : Int) from by omega]
      obtain ⟨ad, rfl, hx⟩ := Kd.at_int HR.out (i : Int) (by omega) (by omega)
      rw [Int.toNat_natCast] at hx
      have HI := Aside0.mk (show (i : Int) + 1 = (l.length : Int) - d by omega)
      cases hb : badN (rd l i)
      · have HE2 := Aside0.mk (show firstBad l l.length = firstBad l d by rw [HE.out]; simp [firstBad, hi, hb])
        have HBB := Aside0.mk hb
        clear hb hi
        go_wp2_with (go_at_call 77; (with_reducible refine (bad_calls _ _).mono ?_); rintro e w' ⟨rfl, rfl⟩; rw [HBB.out])
        go_round
        case rel => exact ⟨d, by omega, by rw [HI.out], HE2⟩
        case measure => (simp [intOf] <;> omega)
      · have HE2 := Aside0.mk (show firstBad l l.length = i by rw [HE.out]; simp [firstBad, hi, hb])
        have HBB := Aside0.mk hb
        clear hb hi
        go_wp2_with (go_at_call 77; (with_reducible refine (bad_calls _ _).mono ?_); rintro e w' ⟨rfl, rfl⟩; rw [HBB.out])
        go_ret
        exact ⟨by rw [HE2.out] <;> rfl, rfl⟩

theorem firstBad_bd (l : List Int) : ∀ d, -1 ≤ firstBad l d ∧ firstBad l d ≤ l.length := by
  intro d
  induction d with
  | zero => simp [firstBad] <;> omega
  | succ d ih => unfold firstBad; split <;> omega

theorem rd_drop {l : List Int} {i : Nat} (h : i < l.length) : l.drop i = rd l i :: l.drop (i + 1) := by
  rw [List.drop_eq_getElem_cons h]; congr 1
  simp [rd, List.getD_eq_getElem?_getD, h]
theorem firstBad_any (l : List Int) : ∀ d, d ≤ l.length → decide (0 ≤ firstBad l d) = (l.drop (l.length - d)).any badN := by
  intro d
  induction d with
  | zero => intro _; rw [Nat.sub_zero, List.drop_eq_nil_of_le (Nat.le_refl _)]; simp [firstBad]
  | succ d ih =>
    intro h
    rw [rd_drop (show l.length - (d + 1) < l.length by omega), List.any_cons, show l.length - (d + 1) + 1 = l.length - d by omega, ← ih (by omega)]
    rw [firstBad]
    cases hb : badN (rd l ((l.length - (d + 1) : Nat) : Int))
    · rw [if_neg (by simp)]; simp
    · rw [if_pos rfl]; simp
theorem contains_any (l : List Int) : decide (0 ≤ firstBad l l.length) = l.any badN := by
  rw [firstBad_any l _ (Nat.le_refl _), Nat.sub_self]; rfl
set_option maxHeartbeats 400000 in
set_option maxRecDepth 100000 in
theorem contains_calls (A : Option Addr) (c : Nat) (l : List Int) (w : World) (hl : l.length ≤ 1000) (hr : Kd.C (Kd.int .i64) w A l.length l) :
    Calls Try.prog 75 #[.slice A l.length c, .func (.func 77) #[] #[]] w fun e w' => e = .returned (.bool (l.any badN)) ∧ w = w' := by
  have HA := Aside0.mk (contains_any l)
  have HR := Aside0.mk hr
  clear hr
  have hb := firstBad_bd l l.length
  go_enter Try.func75, Try.ntmps75
  go_wp2_with (go_at_call 80; (with_reducible refine (index_calls A c l _ hl HR.out).mono ?_); rintro e w' ⟨rfl, rfl⟩)
  go_ret
  exact ⟨by rw [← HA.out] <;> rfl, rfl⟩

/-- may a step's numbers not be? -/
def badS (x : S53) : Bool := [x.f0, x.f1, x.f2, x.f3, x.f4].any badN

set_option maxHeartbeats 400000 in
set_option maxRecDepth 100000 in
theorem odd_calls (x : S53) (A : Option Addr) (c : Nat) (w : World) (hc : x.f5.f2.length ≤ c) (hr : Kd.C (Kd.int .u64) w A x.f5.f2.length x.f5.f2) :
    Calls Try.prog 56 #[.agg #[.int .i64 x.f0, .int .i64 x.f1, .int .i64 x.f2, .int .i64 x.f3, .int .i64 x.f4, .int .i64 x.f5.f0, .int .i64 x.f5.f1, .slice A x.f5.f2.length c]] w
      fun e w' => e = .returned (.bool (badS x)) ∧ Below w.heap.size w w' := by
  have HR := Aside0.mk hr
  have HC := Aside0.mk hc
  clear hr hc
  have HB := Aside0.mk (Below.refl w.heap.size w)
  go_enter Try.func56, Try.ntmps56
  go_wp2_with fail
  refine (script_numbers.calls x.f0 x.f1 x.f2 x.f3 x.f4 x.f5.f0 x.f5.f1 A c x.f5.f2 [x.f0, x.f1, x.f2, x.f3, x.f4] _ (Kd.C_alloc HR.out _) HC.out rfl).mono ?_
  rintro e w1 ⟨v, rfl, ho, hb⟩
  have HB1 := Aside0.mk (below_step (below_alloc HB.out _) hb)
  have HO := Aside0.mk ho
  clear HB ho hb
  obtain ⟨A1, c1, rfl⟩ := Kd.R_slice HO.out
  have HC5 : Aside0 (Calls Try.prog 75 #[.slice A1 5 c1, .func (.func 77) #[] #[]] w1 fun e w' => e = .returned (.bool (badS x)) ∧ w1 = w') := ⟨contains_calls A1 c1 [x.f0, x.f1, x.f2, x.f3, x.f4] w1 (by simp) (Kd.R_reads' HO.out).2.2⟩
  go_wp2_with (go_at_call 75; (with_reducible refine HC5.out.mono ?_); rintro e w' ⟨rfl, rfl⟩)
  go_ret
  exact ⟨rfl, HB1.out⟩
end Go.Proofs.Ythmakmmfbdmdfaa.OwnSc
