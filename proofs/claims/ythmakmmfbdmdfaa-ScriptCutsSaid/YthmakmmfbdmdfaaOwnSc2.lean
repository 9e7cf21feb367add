/- Scripts, walked: may a step's matrix be put; is any step odd? -/
import Derived.Test.YthmakmmfbdmdfaaOwnSc1
set_option linter.unusedVariables false
set_option linter.unusedSimpArgs false
namespace Go.Proofs.Ythmakmmfbdmdfaa.OwnSc
open Go.RowKit Go.Proofs.Ythmakmmfbdmdfaa.PScriptBack Go.Proofs.YthmakmmfbdmdfaaW.PrintWords Go.Proofs.YthmakmmfbdmdfaaW.PrintLast Go.Proofs.YthmakmmfbdmdfaaW.PrintMore
attribute [local go_sem] max2_int min2_int max_two min_two max_three min_three max_four min_four

/-- may a matrix be put? -/
def okM (y : S51) : Bool := decide (0 ≤ y.f0) && (decide (y.f0 ≤ 64) && (decide (0 ≤ y.f1) && (decide (y.f1 ≤ 64) && ((y.f2.length : Int) == y.f0 * y.f1))))
theorem mul_bd {a b A B : Int} (ha : 0 ≤ a) (hA : a ≤ A) (hb : 0 ≤ b) (hB : b ≤ B) : 0 ≤ a * b ∧ a * b ≤ A * B :=
  ⟨Int.mul_nonneg ha hb, Int.mul_le_mul hA hB hb (by omega)⟩

set_option maxHeartbeats 400000 in
set_option maxRecDepth 100000 in
theorem shaped_calls (y : S51) (A : Option Addr) (c : Nat) (w : World) :
    Calls Try.prog 58 #[.agg #[.int .i64 y.f0, .int .i64 y.f1, .slice A y.f2.length c]] w fun e w' => e = .returned (.bool (okM y)) ∧ Below w.heap.size w w' := by
  obtain ⟨r, q, l⟩ := y
  have HB := Aside0.mk (Below.refl w.heap.size w)
  by_cases h1 : 0 ≤ r
  · have b1 : decide (0 ≤ r) = true := by simpa using h1
    by_cases h2 : r ≤ 64
    · have b2 : decide (r ≤ 64) = true := by simpa using h2
      by_cases h3 : 0 ≤ q
      · have b3 : decide (0 ≤ q) = true := by simpa using h3
        by_cases h4 : q ≤ 64
        · have b4 : decide (q ≤ 64) = true := by simpa using h4
          obtain ⟨m0, m1⟩ := mul_bd h1 h2 h3 h4
          have HE := Aside0.mk (show okM ⟨r, q, l⟩ = ((l.length : Int) == r * q) by simp [okM, h1, h2, h3, h4])
          go_enter Try.func58, Try.ntmps58
          go_wp2
          go_ret
          exact ⟨by rw [HE.out] <;> rfl, below_alloc HB.out _⟩
        · have b4 : decide (q ≤ 64) = false := by simpa using h4
          have HE := Aside0.mk (show okM ⟨r, q, l⟩ = false by simp [okM, h1, h2, h3, h4])
          clear h4
          go_enter Try.func58, Try.ntmps58
          go_wp2
          go_ret
          exact ⟨by rw [HE.out] <;> rfl, below_alloc HB.out _⟩
      · have b3 : decide (0 ≤ q) = false := by simpa using h3
        have HE := Aside0.mk (show okM ⟨r, q, l⟩ = false by simp [okM, h1, h2, h3])
        clear h3
        go_enter Try.func58, Try.ntmps58
        go_wp2
        go_ret
        exact ⟨by rw [HE.out] <;> rfl, below_alloc HB.out _⟩
    · have b2 : decide (r ≤ 64) = false := by simpa using h2
      have HE := Aside0.mk (show okM ⟨r, q, l⟩ = false by simp [okM, h1, h2])
      clear h2
      go_enter Try.func58, Try.ntmps58
      go_wp2
      go_ret
      exact ⟨by rw [HE.out] <;> rfl, below_alloc HB.out _⟩
  · have b1 : decide (0 ≤ r) = false := by simpa using h1
    have HE := Aside0.mk (show okM ⟨r, q, l⟩ = false by simp [okM, h1])
    clear h1
    go_enter Try.func58, Try.ntmps58
    go_wp2
    go_ret
    exact ⟨by rw [HE.out] <;> rfl, below_alloc HB.out _⟩

/-- may a step's matrix not be put? -/
def badM (x : S53) : Bool := !okM x.f5

set_option maxHeartbeats 400000 in
set_option maxRecDepth 100000 in
theorem unshaped_calls (x : S53) (A : Option Addr) (c : Nat) (w : World) (hc : x.f5.f2.length ≤ c) (hr : Kd.C (Kd.int .u64) w A x.f5.f2.length x.f5.f2) :
    Calls Try.prog 57 #[.agg #[.int .i64 x.f0, .int .i64 x.f1, .int .i64 x.f2, .int .i64 x.f3, .int .i64 x.f4, .int .i64 x.f5.f0, .int .i64 x.f5.f1, .slice A x.f5.f2.length c]] w
      fun e w' => e = .returned (.bool (badM x)) ∧ Below w.heap.size w w' := by
  clear hr hc
  have HB := Aside0.mk (Below.refl w.heap.size w)
  go_enter Try.func57, Try.ntmps57
  go_wp2_with (go_at_call 58; (with_reducible refine (shaped_calls x.f5 A c _).mono ?_); rintro e w' ⟨rfl, hb⟩; have HB1 := Aside0.mk (below_step (below_alloc HB.out _) hb); clear hb)
  go_ret
  exact ⟨rfl, HB1.out⟩

/-- the first place of a step of some kind, or -1 -/
def firstS (p : S53 → Bool) (l : List S53) : Nat → Int
  | 0 => -1
  | d + 1 => if p (rd_T53 l ((l.length - (d + 1) : Nat) : Int)) then ((l.length - (d + 1) : Nat) : Int) else firstS p l d
theorem firstS_bd (p : S53 → Bool) (l : List S53) : ∀ d, -1 ≤ firstS p l d ∧ firstS p l d ≤ l.length := by
  intro d
  induction d with
  | zero => simp [firstS] <;> omega
  | succ d ih => unfold firstS; split <;> omega
theorem rdT_drop {l : List S53} {i : Nat} (h : i < l.length) : l.drop i = rd_T53 l i :: l.drop (i + 1) := by
  rw [List.drop_eq_getElem_cons h]; congr 1
  simp [rd_T53, List.getD_eq_getElem?_getD, h]
theorem firstS_any (p : S53 → Bool) (l : List S53) : ∀ d, d ≤ l.length → decide (0 ≤ firstS p l d) = (l.drop (l.length - d)).any p := by
  intro d
  induction d with
  | zero => intro _; rw [Nat.sub_zero, List.drop_eq_nil_of_le (Nat.le_refl _)]; simp [firstS]
  | succ d ih =>
    intro h
    rw [rdT_drop (show l.length - (d + 1) < l.length by omega), List.any_cons, show l.length - (d + 1) + 1 = l.length - d by omega, ← ih (by omega)]
    rw [firstS]
    cases hb : p (rd_T53 l ((l.length - (d + 1) : Nat) : Int))
    · rw [if_neg (by simp)]; simp
    · rw [if_pos rfl]; simp
theorem anyS (p : S53 → Bool) (l : List S53) : decide (0 ≤ firstS p l l.length) = l.any p := by
  rw [firstS_any p l _ (Nat.le_refl _), Nat.sub_self]; rfl

set_option maxHeartbeats 800000 in
set_option maxRecDepth 100000 in
theorem index_odd (A : Option Addr) (c : Nat) (l : List S53) (w : World) (hl : l.length ≤ 256) (hr : Kd.C k53 w A l.length l) :
    Calls Try.prog 74 #[.slice A l.length c, .func (.func 56) #[] #[]] w fun e w' => e = .returned (.int .i64 (firstS badS l l.length)) ∧ Below w.heap.size w w' := by
  have HR := Aside0.mk hr
  have HB := Aside0.mk (Below.refl w.heap.size w)
  clear hr
  go_enter Try.func74, Try.ntmps74
  go_wp2
  go_loopw [8] (fun v8 wr => ∃ d : Nat, d ≤ l.length ∧ v8 = .int .i64 ((l.length : Int) - d) ∧ Aside0 (firstS badS l l.length = firstS badS l d) ∧ Aside0 (Below w.heap.size w wr)) (fun v8 _ => l.length - (intOf v8).toNat)
  case atStart => exact ⟨l.length, Nat.le_refl _, by simp, ⟨rfl⟩, HB⟩
  case round =>
    clear HB
    obtain ⟨d, hd, rfl, HE, HB⟩ := hrel
    cases d with
    | zero =>
      rw [show ((l.length : Int) - ((0 : Nat) : Int)) = (l.length : Int) from by omega]
      go_wp2
      go_ret
      exact ⟨by rw [HE.out] <;> rfl, HB.out⟩
    | succ d =>
      obtain ⟨i, hi⟩ : ∃ i : Nat, l.length - (d + 1) = i := ⟨_, rfl⟩
      have hi2 : i < l.length := by omega
      rw [show ((l.length : Int) - ((d + 1 : Nat) : Int)) = (i : Int) from by omega]
      have HI := Aside0.mk (show (i : Int) + 1 = (l.length : Int) - d by omega)
      obtain ⟨ad, A7, c7, rfl, x0, x1, x2, x3, x4, x5, x6, x7, l7, g7⟩ := at_T53 (Kd.C_below HR.out HB.out) (i : Int) (by omega) (by omega)
      rw [Int.toNat_natCast] at x0 x1 x2 x3 x4 x5 x6 x7
      have HG := Aside0.mk g7
      have HL := Aside0.mk l7
      clear g7 l7
      cases hb : badS (rd_T53 l i)
      · have HE2 := Aside0.mk (show firstS badS l l.length = firstS badS l d by rw [HE.out]; simp [firstS, hi, hb])
        have HBB := Aside0.mk hb
        clear hb hi
        go_wp2_with fail
        refine (odd_calls (rd_T53 l i) A7 c7 _ HL.out HG.out).mono ?_
        rintro e w1 ⟨rfl, hb⟩
        rw [HBB.out]
        have HB1 := Aside0.mk (below_step HB.out hb)
        clear hb HB
        go_wp2
        go_roundw
        case rel => exact ⟨d, by omega, by rw [HI.out], HE2, HB1⟩
        case measure => (simp [intOf] <;> omega)
      · have HE2 := Aside0.mk (show firstS badS l l.length = i by rw [HE.out]; simp [firstS, hi, hb])
        have HBB := Aside0.mk hb
        clear hb hi
        go_wp2_with fail
        refine (odd_calls (rd_T53 l i) A7 c7 _ HL.out HG.out).mono ?_
        rintro e w1 ⟨rfl, hb⟩
        rw [HBB.out]
        have HB1 := Aside0.mk (below_step HB.out hb)
        clear hb HB
        go_wp2
        go_ret
        exact ⟨by rw [HE2.out] <;> rfl, HB1.out⟩

set_option maxHeartbeats 400000 in
set_option maxRecDepth 100000 in
theorem any_odd (A : Option Addr) (c : Nat) (l : List S53) (w : World) (hl : l.length ≤ 256) (hr : Kd.C k53 w A l.length l) :
    Calls Try.prog 55 #[.slice A l.length c, .func (.func 56) #[] #[]] w fun e w' => e = .returned (.bool (l.any badS)) ∧ Below w.heap.size w w' := by
  have HR := Aside0.mk hr
  have HA := Aside0.mk (anyS badS l)
  clear hr
  obtain ⟨hb0, hb1⟩ := firstS_bd badS l l.length
  go_enter Try.func55, Try.ntmps55
  go_wp2_with (go_at_call 74; (with_reducible refine (index_odd A c l _ hl HR.out).mono ?_); rintro e w' ⟨rfl, hb⟩; have HB1 := Aside0.mk hb; clear hb)
  go_ret
  exact ⟨by rw [← HA.out] <;> rfl, HB1.out⟩

set_option maxHeartbeats 800000 in
set_option maxRecDepth 100000 in
theorem index_unshaped (A : Option Addr) (c : Nat) (l : List S53) (w : World) (hl : l.length ≤ 256) (hr : Kd.C k53 w A l.length l) :
    Calls Try.prog 74 #[.slice A l.length c, .func (.func 57) #[] #[]] w fun e w' => e = .returned (.int .i64 (firstS badM l l.length)) ∧ Below w.heap.size w w' := by
  have HR := Aside0.mk hr
  have HB := Aside0.mk (Below.refl w.heap.size w)
  clear hr
  go_enter Try.func74, Try.ntmps74
  go_wp2
  go_loopw [8] (fun v8 wr => ∃ d : Nat, d ≤ l.length ∧ v8 = .int .i64 ((l.length : Int) - d) ∧ Aside0 (firstS badM l l.length = firstS badM l d) ∧ Aside0 (Below w.heap.size w wr)) (fun v8 _ => l.length - (intOf v8).toNat)
  case atStart => exact ⟨l.length, Nat.le_refl _, by simp, ⟨rfl⟩, HB⟩
  case round =>
    clear HB
    obtain ⟨d, hd, rfl, HE, HB⟩ := hrel
    cases d with
    | zero =>
      rw [show ((l.length : Int) - ((0 : Nat) : Int)) = (l.length : Int) from by omega]
      go_wp2
      go_ret
      exact ⟨by rw [HE.out] <;> rfl, HB.out⟩
    | succ d =>
      obtain ⟨i, hi⟩ : ∃ i : Nat, l.length - (d + 1) = i := ⟨_, rfl⟩
      have hi2 : i < l.length := by omega
      rw [show ((l.length : Int) - ((d + 1 : Nat) : Int)) = (i : Int) from by omega]
      have HI := Aside0.mk (show (i : Int) + 1 = (l.length : Int) - d by omega)
      obtain ⟨ad, A7, c7, rfl, x0, x1, x2, x3, x4, x5, x6, x7, l7, g7⟩ := at_T53 (Kd.C_below HR.out HB.out) (i : Int) (by omega) (by omega)
      rw [Int.toNat_natCast] at x0 x1 x2 x3 x4 x5 x6 x7
      have HG := Aside0.mk g7
      have HL := Aside0.mk l7
      clear g7 l7
      cases hb : badM (rd_T53 l i)
      · have HE2 := Aside0.mk (show firstS badM l l.length = firstS badM l d by rw [HE.out]; simp [firstS, hi, hb])
        have HBB := Aside0.mk hb
        clear hb hi
        go_wp2_with fail
        refine (unshaped_calls (rd_T53 l i) A7 c7 _ HL.out HG.out).mono ?_
        rintro e w1 ⟨rfl, hb⟩
        rw [HBB.out]
        have HB1 := Aside0.mk (below_step HB.out hb)
        clear hb HB
        go_wp2
        go_roundw
        case rel => exact ⟨d, by omega, by rw [HI.out], HE2, HB1⟩
        case measure => (simp [intOf] <;> omega)
      · have HE2 := Aside0.mk (show firstS badM l l.length = i by rw [HE.out]; simp [firstS, hi, hb])
        have HBB := Aside0.mk hb
        clear hb hi
        go_wp2_with fail
        refine (unshaped_calls (rd_T53 l i) A7 c7 _ HL.out HG.out).mono ?_
        rintro e w1 ⟨rfl, hb⟩
        rw [HBB.out]
        have HB1 := Aside0.mk (below_step HB.out hb)
        clear hb HB
        go_wp2
        go_ret
        exact ⟨by rw [HE2.out] <;> rfl, HB1.out⟩

set_option maxHeartbeats 400000 in
set_option maxRecDepth 100000 in
theorem any_unshaped (A : Option Addr) (c : Nat) (l : List S53) (w : World) (hl : l.length ≤ 256) (hr : Kd.C k53 w A l.length l) :
    Calls Try.prog 55 #[.slice A l.length c, .func (.func 57) #[] #[]] w fun e w' => e = .returned (.bool (l.any badM)) ∧ Below w.heap.size w w' := by
  have HR := Aside0.mk hr
  have HA := Aside0.mk (anyS badM l)
  clear hr
  obtain ⟨hb0, hb1⟩ := firstS_bd badM l l.length
  go_enter Try.func55, Try.ntmps55
  go_wp2_with (go_at_call 74; (with_reducible refine (index_unshaped A c l _ hl HR.out).mono ?_); rintro e w' ⟨rfl, hb⟩; have HB1 := Aside0.mk hb; clear hb)
  go_ret
  exact ⟨by rw [← HA.out] <;> rfl, HB1.out⟩

end Go.Proofs.Ythmakmmfbdmdfaa.OwnSc
