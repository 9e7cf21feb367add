-- PRINTED BY print.sh 35421559b90ae4d0a3588c463048766b98c2df88dd9212a6774a882060cdf62d: not written by this session
import Derived.Test.YthmakmmfbdmdfaaPFcmpNextx0
import Derived.Test.YthmakmmfbdmdfaaPFcmpNextx1
namespace Go.Proofs.Ythmakmmfbdmdfaa.PFcmpNext
open Go.RowKit Go.Proofs.YthmakmmfbdmdfaaW.PrintWords Go.Proofs.YthmakmmfbdmdfaaW.PrintLast Go.Proofs.YthmakmmfbdmdfaaW.PrintMore
attribute [local go_sem] max2_int min2_int max_two min_two max_three min_three max_four min_four   -- for this text's walks alone
set_option linter.unusedVariables false
set_option linter.unusedSimpArgs false

/-! ### vernierref06_Inf: function 24 -/
def vernierref06_Inf.f (a0 : Bool) : Option (Int) := (vernierref06_Zero.f a0).bind fun t120 => (some (IntKind.u64.wrap (t120 + 9218868437227405312)))
set_option maxHeartbeats 8000000 in
set_option maxRecDepth 100000 in
theorem vernierref06_Inf.calls (a0 : Bool) (r : Int) (w : World) (h : vernierref06_Inf.f a0 = some r) :
    Calls Try.prog 24 #[.bool a0] w fun e w' => e = .returned (.int .u64 r) ∧ Drawn0 w w' := by
  have H : ((vernierref06_Zero.f a0).bind fun t120 => (some (IntKind.u64.wrap (t120 + 9218868437227405312)))) = some r := h
  clear h
  replace H := Option.bind_eq_some_iff.mp H
  obtain ⟨t120, A20, H⟩ := H
  replace H : (some (IntKind.u64.wrap (t120 + 9218868437227405312))) = some r := H
  have A2 := Aside0.mk A20
  clear A20
  obtain rfl := Option.some.inj H
  go_enter Try.func24, Try.ntmps24
  go_wp2_with (first | ((with_reducible refine gate_callee (f := 52) rfl ?_); refine goesL_ (some 4) rfl rfl Try.func52 (by kernel_rfl) rfl #[.bool a0] rfl (by (try simp only [List.map_toArray, List.map_cons, List.map_nil]); first | done | rfl | (simp only [List.length_drop, List.length_take]; rfl)) ?_; (with_reducible refine (vernierref06_Zero.calls a0 t120 _ A2.out).mono ?_); rintro e w' ⟨rfl, ⟨nd, rfl⟩⟩; refine ⟨_, rfl, ?_⟩))
  go_ret
  exact ⟨by first | rfl | (simp; done) | (simp [*]; done), by repeat (first | exact Drawn0.refl _ | apply Drawn0.step)⟩

/-! ### vernierlaw12_FcmpNext: function 6 -/
mutual
def vernierlaw12_FcmpNext.j0 : Nat → Int → Int → Int → Int → Bool → Option (Bool)
  | 0, _, _, _, _, _ => none
  | k + 1, x0, x1, x5, x6, x40 => if x40 = true then (some false) else ((vernierref06_Inf.f false).bind fun t128 => (if x0 = t128 then (vernierlaw12_FcmpNext.j1 k x0 x1 x5 x6 false) else ((fcmp_Less.f k x0 x5).bind fun t129 => (if t129 = true then ((fcmp_Less.f k x0 x1).bind fun t130 => (if t130 = true then ((fcmp_Less.f k x1 x5).bind fun t131 => (vernierlaw12_FcmpNext.j1 k x0 x1 x5 x6 t131)) else (vernierlaw12_FcmpNext.j1 k x0 x1 x5 x6 false))) else (vernierlaw12_FcmpNext.j1 k x0 x1 x5 x6 true)))))
def vernierlaw12_FcmpNext.j1 : Nat → Int → Int → Int → Int → Bool → Option (Bool)
  | 0, _, _, _, _, _ => none
  | k + 1, x0, x1, x5, x6, x59 => if x59 = true then (some false) else ((vernierref06_Inf.f true).bind fun t132 => (if x0 = t132 then (vernierlaw12_FcmpNext.j2 k x0 x5 x6 false) else ((fcmp_Less.f k x6 x0).bind fun t133 => (if t133 = true then ((fcmp_Less.f k x6 x1).bind fun t134 => (if t134 = true then ((fcmp_Less.f k x1 x0).bind fun t135 => (vernierlaw12_FcmpNext.j2 k x0 x5 x6 t135)) else (vernierlaw12_FcmpNext.j2 k x0 x5 x6 false))) else (vernierlaw12_FcmpNext.j2 k x0 x5 x6 true)))))
def vernierlaw12_FcmpNext.j2 : Nat → Int → Int → Int → Bool → Option (Bool)
  | 0, _, _, _, _ => none
  | k + 1, x0, x5, x6, x78 => if x78 = true then (some false) else (if x0 = 9223372036854775809 then (if x5 = 9223372036854775808 then (if x0 = 1 then (vernierlaw12_FcmpNext.j3 k x0 x5 (x6 != 0)) else (vernierlaw12_FcmpNext.j3 k x0 x5 false)) else (vernierlaw12_FcmpNext.j3 k x0 x5 true)) else (if x0 = 1 then (vernierlaw12_FcmpNext.j3 k x0 x5 (x6 != 0)) else (vernierlaw12_FcmpNext.j3 k x0 x5 false)))
def vernierlaw12_FcmpNext.j3 : Nat → Int → Int → Bool → Option (Bool)
  | 0, _, _, _ => none
  | k + 1, x0, x5, x92 => if x92 = true then (some false) else ((fcmp_Prev.f k x5).bind fun t136 => ((vernierref06_Inf.f false).bind fun t137 => (if x0 = t137 then (some true) else (if t136 = x0 then (some true) else (if (IntKind.u64.wrap (t136 * 2)) = 0 then (some ((IntKind.u64.wrap (x0 * 2)) == 0)) else (some false))))))
end
def vernierlaw12_FcmpNext.f (k : Nat) (a0 : Int) (a1 : Int) : Option (Bool) := (vernierlaw12_alive.f k).bind fun t121 => (if t121 = true then ((fcmp_Next.f k a0).bind fun t122 => ((fcmp_Prev.f k a0).bind fun t123 => ((vernierref06_Class.f k a0).bind fun t124 => (if t124 = 3 then (if t122 = 9221120237041090560 then (some (t123 == 9221120237041090560)) else (some false)) else ((vernierref06_Inf.f false).bind fun t125 => (if a0 = t125 then (if t122 = a0 then ((vernierref06_Inf.f true).bind fun t126 => (if a0 = t126 then (vernierlaw12_FcmpNext.j0 k a0 a1 t122 t123 (t123 != a0)) else (vernierlaw12_FcmpNext.j0 k a0 a1 t122 t123 false))) else (vernierlaw12_FcmpNext.j0 k a0 a1 t122 t123 true)) else ((vernierref06_Inf.f true).bind fun t127 => (if a0 = t127 then (vernierlaw12_FcmpNext.j0 k a0 a1 t122 t123 (t123 != a0)) else (vernierlaw12_FcmpNext.j0 k a0 a1 t122 t123 false))))))))) else (some false))
theorem vernierlaw12_FcmpNext.mono_l : ∀ k, (∀ y0 y1 y2 y3 y4, LeO (vernierlaw12_FcmpNext.j0 k y0 y1 y2 y3 y4) (vernierlaw12_FcmpNext.j0 (k + 1) y0 y1 y2 y3 y4)) ∧ (∀ y0 y1 y2 y3 y4, LeO (vernierlaw12_FcmpNext.j1 k y0 y1 y2 y3 y4) (vernierlaw12_FcmpNext.j1 (k + 1) y0 y1 y2 y3 y4)) ∧ (∀ y0 y1 y2 y3, LeO (vernierlaw12_FcmpNext.j2 k y0 y1 y2 y3) (vernierlaw12_FcmpNext.j2 (k + 1) y0 y1 y2 y3)) ∧ (∀ y0 y1 y2, LeO (vernierlaw12_FcmpNext.j3 k y0 y1 y2) (vernierlaw12_FcmpNext.j3 (k + 1) y0 y1 y2))
  | 0 => ⟨fun _ _ _ _ _ r h => by simp [vernierlaw12_FcmpNext.j0] at h, fun _ _ _ _ _ r h => by simp [vernierlaw12_FcmpNext.j1] at h, fun _ _ _ _ r h => by simp [vernierlaw12_FcmpNext.j2] at h, fun _ _ _ r h => by simp [vernierlaw12_FcmpNext.j3] at h⟩
  | k + 1 => by
    obtain ⟨ih0, ih1, ih2, ih3⟩ := vernierlaw12_FcmpNext.mono_l k
    refine ⟨?_, ?_, ?_, ?_⟩
    · intro y0 y1 y2 y3 y4
      unfold vernierlaw12_FcmpNext.j0
      repeat' first
      | (with_reducible exact ih0 _ _ _ _ _)
      | (with_reducible exact ih1 _ _ _ _ _)
      | (with_reducible exact ih2 _ _ _ _)
      | (with_reducible exact ih3 _ _ _)
      | (with_reducible exact fcmp_Less.mono _ _ _)
      | (with_reducible exact fcmp_Next.mono _ _)
      | (with_reducible exact fcmp_Prev.mono _ _)
      | (with_reducible exact vernierlaw12_alive.mono _)
      | (with_reducible exact vernierref06_Class.mono _ _)
      | (with_reducible exact LeO.refl _)
      | (with_reducible exact LeO.none _)
      | (with_reducible refine LeO.ite ?_ ?_)
      | (with_reducible refine LeO.bind ?_ (fun _ => ?_))
      | exact ih0 _ _ _ _ _
      | exact ih1 _ _ _ _ _
      | exact ih2 _ _ _ _
      | exact ih3 _ _ _
      | exact fcmp_Less.mono _ _ _
      | exact fcmp_Next.mono _ _
      | exact fcmp_Prev.mono _ _
      | exact vernierlaw12_alive.mono _
      | exact vernierref06_Class.mono _ _
      | exact LeO.none _
      | refine LeO.ite ?_ ?_
      | refine LeO.bind ?_ (fun _ => ?_)
    · intro y0 y1 y2 y3 y4
      unfold vernierlaw12_FcmpNext.j1
      repeat' first
      | (with_reducible exact ih0 _ _ _ _ _)
      | (with_reducible exact ih1 _ _ _ _ _)
      | (with_reducible exact ih2 _ _ _ _)
      | (with_reducible exact ih3 _ _ _)
      | (with_reducible exact fcmp_Less.mono _ _ _)
      | (with_reducible exact fcmp_Next.mono _ _)
      | (with_reducible exact fcmp_Prev.mono _ _)
      | (with_reducible exact vernierlaw12_alive.mono _)
      | (with_reducible exact vernierref06_Class.mono _ _)
      | (with_reducible exact LeO.refl _)
      | (with_reducible exact LeO.none _)
      | (with_reducible refine LeO.ite ?_ ?_)
      | (with_reducible refine LeO.bind ?_ (fun _ => ?_))
      | exact ih0 _ _ _ _ _
      | exact ih1 _ _ _ _ _
      | exact ih2 _ _ _ _
      | exact ih3 _ _ _
      | exact fcmp_Less.mono _ _ _
      | exact fcmp_Next.mono _ _
      | exact fcmp_Prev.mono _ _
      | exact vernierlaw12_alive.mono _
      | exact vernierref06_Class.mono _ _
      | exact LeO.none _
      | refine LeO.ite ?_ ?_
      | refine LeO.bind ?_ (fun _ => ?_)
    · intro y0 y1 y2 y3
      unfold vernierlaw12_FcmpNext.j2
      repeat' first
      | (with_reducible exact ih0 _ _ _ _ _)
      | (with_reducible exact ih1 _ _ _ _ _)
      | (with_reducible exact ih2 _ _ _ _)
      | (with_reducible exact ih3 _ _ _)
      | (with_reducible exact fcmp_Less.mono _ _ _)
      | (with_reducible exact fcmp_Next.mono _ _)
      | (with_reducible exact fcmp_Prev.mono _ _)
      | (with_reducible exact vernierlaw12_alive.mono _)
      | (with_reducible exact vernierref06_Class.mono _ _)
      | (with_reducible exact LeO.refl _)
      | (with_reducible exact LeO.none _)
      | (with_reducible refine LeO.ite ?_ ?_)
      | (with_reducible refine LeO.bind ?_ (fun _ => ?_))
      | exact ih0 _ _ _ _ _
      | exact ih1 _ _ _ _ _
      | exact ih2 _ _ _ _
      | exact ih3 _ _ _
      | exact fcmp_Less.mono _ _ _
      | exact fcmp_Next.mono _ _
      | exact fcmp_Prev.mono _ _
      | exact vernierlaw12_alive.mono _
      | exact vernierref06_Class.mono _ _
      | exact LeO.none _
      | refine LeO.ite ?_ ?_
      | refine LeO.bind ?_ (fun _ => ?_)
    · intro y0 y1 y2
      unfold vernierlaw12_FcmpNext.j3
      repeat' first
      | (with_reducible exact ih0 _ _ _ _ _)
      | (with_reducible exact ih1 _ _ _ _ _)
      | (with_reducible exact ih2 _ _ _ _)
      | (with_reducible exact ih3 _ _ _)
      | (with_reducible exact fcmp_Less.mono _ _ _)
      | (with_reducible exact fcmp_Next.mono _ _)
      | (with_reducible exact fcmp_Prev.mono _ _)
      | (with_reducible exact vernierlaw12_alive.mono _)
      | (with_reducible exact vernierref06_Class.mono _ _)
      | (with_reducible exact LeO.refl _)
      | (with_reducible exact LeO.none _)
      | (with_reducible refine LeO.ite ?_ ?_)
      | (with_reducible refine LeO.bind ?_ (fun _ => ?_))
      | exact ih0 _ _ _ _ _
      | exact ih1 _ _ _ _ _
      | exact ih2 _ _ _ _
      | exact ih3 _ _ _
      | exact fcmp_Less.mono _ _ _
      | exact fcmp_Next.mono _ _
      | exact fcmp_Prev.mono _ _
      | exact vernierlaw12_alive.mono _
      | exact vernierref06_Class.mono _ _
      | exact LeO.none _
      | refine LeO.ite ?_ ?_
      | refine LeO.bind ?_ (fun _ => ?_)
theorem vernierlaw12_FcmpNext.mono : ∀ a0 a1 k, LeO (vernierlaw12_FcmpNext.f k a0 a1) (vernierlaw12_FcmpNext.f (k + 1) a0 a1) := by
  intro a0 a1 k
  obtain ⟨ih0, ih1, ih2, ih3⟩ := vernierlaw12_FcmpNext.mono_l k
  unfold vernierlaw12_FcmpNext.f
  repeat' first
      | (with_reducible exact ih0 _ _ _ _ _)
      | (with_reducible exact ih1 _ _ _ _ _)
      | (with_reducible exact ih2 _ _ _ _)
      | (with_reducible exact ih3 _ _ _)
      | (with_reducible exact fcmp_Less.mono _ _ _)
      | (with_reducible exact fcmp_Next.mono _ _)
      | (with_reducible exact fcmp_Prev.mono _ _)
      | (with_reducible exact vernierlaw12_alive.mono _)
      | (with_reducible exact vernierref06_Class.mono _ _)
      | (with_reducible exact LeO.refl _)
      | (with_reducible exact LeO.none _)
      | (with_reducible refine LeO.ite ?_ ?_)
      | (with_reducible refine LeO.bind ?_ (fun _ => ?_))
      | exact ih0 _ _ _ _ _
      | exact ih1 _ _ _ _ _
      | exact ih2 _ _ _ _
      | exact ih3 _ _ _
      | exact fcmp_Less.mono _ _ _
      | exact fcmp_Next.mono _ _
      | exact fcmp_Prev.mono _ _
      | exact vernierlaw12_alive.mono _
      | exact vernierref06_Class.mono _ _
      | exact LeO.none _
      | refine LeO.ite ?_ ?_
      | refine LeO.bind ?_ (fun _ => ?_)
set_option maxHeartbeats 8000000 in
set_option maxRecDepth 100000 in
theorem vernierlaw12_FcmpNext.calls (k : Nat) (a0 : Int) (a1 : Int) (r : Bool) (w : World) (h : vernierlaw12_FcmpNext.f k a0 a1 = some r) :
    Calls Try.prog 6 #[.int .u64 a0, .int .u64 a1] w fun e w' => e = .returned (.bool r) ∧ Drawn0 w w' := by
  have H : ((vernierlaw12_alive.f k).bind fun t121 => (if t121 = true then ((fcmp_Next.f k a0).bind fun t122 => ((fcmp_Prev.f k a0).bind fun t123 => ((vernierref06_Class.f k a0).bind fun t124 => (if t124 = 3 then (if t122 = 9221120237041090560 then (some (t123 == 9221120237041090560)) else (some false)) else ((vernierref06_Inf.f false).bind fun t125 => (if a0 = t125 then (if t122 = a0 then ((vernierref06_Inf.f true).bind fun t126 => (if a0 = t126 then (vernierlaw12_FcmpNext.j0 k a0 a1 t122 t123 (t123 != a0)) else (vernierlaw12_FcmpNext.j0 k a0 a1 t122 t123 false))) else (vernierlaw12_FcmpNext.j0 k a0 a1 t122 t123 true)) else ((vernierref06_Inf.f true).bind fun t127 => (if a0 = t127 then (vernierlaw12_FcmpNext.j0 k a0 a1 t122 t123 (t123 != a0)) else (vernierlaw12_FcmpNext.j0 k a0 a1 t122 t123 false))))))))) else (some false))) = some r := h
  clear h
  replace H := Option.bind_eq_some_iff.mp H
  obtain ⟨t121, A30, H⟩ := H
  replace H : (if t121 = true then ((fcmp_Next.f k a0).bind fun t122 => ((fcmp_Prev.f k a0).bind fun t123 => ((vernierref06_Class.f k a0).bind fun t124 => (if t124 = 3 then (if t122 = 9221120237041090560 then (some (t123 == 9221120237041090560)) else (some false)) else ((vernierref06_Inf.f false).bind fun t125 => (if a0 = t125 then (if t122 = a0 then ((vernierref06_Inf.f true).bind fun t126 => (if a0 = t126 then (vernierlaw12_FcmpNext.j0 k a0 a1 t122 t123 (t123 != a0)) else (vernierlaw12_FcmpNext.j0 k a0 a1 t122 t123 false))) else (vernierlaw12_FcmpNext.j0 k a0 a1 t122 t123 true)) else ((vernierref06_Inf.f true).bind fun t127 => (if a0 = t127 then (vernierlaw12_FcmpNext.j0 k a0 a1 t122 t123 (t123 != a0)) else (vernierlaw12_FcmpNext.j0 k a0 a1 t122 t123 false))))))))) else (some false)) = some r := H
  have A3 := Aside0.mk A30
  clear A30
  by_cases c4 : t121 = true
  · subst c4
    have H1 : ((fcmp_Next.f k a0).bind fun t122 => ((fcmp_Prev.f k a0).bind fun t123 => ((vernierref06_Class.f k a0).bind fun t124 => (if t124 = 3 then (if t122 = 9221120237041090560 then (some (t123 == 9221120237041090560)) else (some false)) else ((vernierref06_Inf.f false).bind fun t125 => (if a0 = t125 then (if t122 = a0 then ((vernierref06_Inf.f true).bind fun t126 => (if a0 = t126 then (vernierlaw12_FcmpNext.j0 k a0 a1 t122 t123 (t123 != a0)) else (vernierlaw12_FcmpNext.j0 k a0 a1 t122 t123 false))) else (vernierlaw12_FcmpNext.j0 k a0 a1 t122 t123 true)) else ((vernierref06_Inf.f true).bind fun t127 => (if a0 = t127 then (vernierlaw12_FcmpNext.j0 k a0 a1 t122 t123 (t123 != a0)) else (vernierlaw12_FcmpNext.j0 k a0 a1 t122 t123 false))))))))) = some r := by rw [if_pos rfl] at H; exact H
    clear H
    have H := H1
    clear H1
    replace H := Option.bind_eq_some_iff.mp H
    obtain ⟨t122, A50, H⟩ := H
    replace H : ((fcmp_Prev.f k a0).bind fun t123 => ((vernierref06_Class.f k a0).bind fun t124 => (if t124 = 3 then (if t122 = 9221120237041090560 then (some (t123 == 9221120237041090560)) else (some false)) else ((vernierref06_Inf.f false).bind fun t125 => (if a0 = t125 then (if t122 = a0 then ((vernierref06_Inf.f true).bind fun t126 => (if a0 = t126 then (vernierlaw12_FcmpNext.j0 k a0 a1 t122 t123 (t123 != a0)) else (vernierlaw12_FcmpNext.j0 k a0 a1 t122 t123 false))) else (vernierlaw12_FcmpNext.j0 k a0 a1 t122 t123 true)) else ((vernierref06_Inf.f true).bind fun t127 => (if a0 = t127 then (vernierlaw12_FcmpNext.j0 k a0 a1 t122 t123 (t123 != a0)) else (vernierlaw12_FcmpNext.j0 k a0 a1 t122 t123 false)))))))) = some r := H
    have A5 := Aside0.mk A50
    clear A50
    replace H := Option.bind_eq_some_iff.mp H
    obtain ⟨t123, A60, H⟩ := H
    replace H : ((vernierref06_Class.f k a0).bind fun t124 => (if t124 = 3 then (if t122 = 9221120237041090560 then (some (t123 == 9221120237041090560)) else (some false)) else ((vernierref06_Inf.f false).bind fun t125 => (if a0 = t125 then (if t122 = a0 then ((vernierref06_Inf.f true).bind fun t126 => (if a0 = t126 then (vernierlaw12_FcmpNext.j0 k a0 a1 t122 t123 (t123 != a0)) else (vernierlaw12_FcmpNext.j0 k a0 a1 t122 t123 false))) else (vernierlaw12_FcmpNext.j0 k a0 a1 t122 t123 true)) else ((vernierref06_Inf.f true).bind fun t127 => (if a0 = t127 then (vernierlaw12_FcmpNext.j0 k a0 a1 t122 t123 (t123 != a0)) else (vernierlaw12_FcmpNext.j0 k a0 a1 t122 t123 false))))))) = some r := H
    have A6 := Aside0.mk A60
    clear A60
    replace H := Option.bind_eq_some_iff.mp H
    obtain ⟨t124, A70, H⟩ := H
    replace H : (if t124 = 3 then (if t122 = 9221120237041090560 then (some (t123 == 9221120237041090560)) else (some false)) else ((vernierref06_Inf.f false).bind fun t125 => (if a0 = t125 then (if t122 = a0 then ((vernierref06_Inf.f true).bind fun t126 => (if a0 = t126 then (vernierlaw12_FcmpNext.j0 k a0 a1 t122 t123 (t123 != a0)) else (vernierlaw12_FcmpNext.j0 k a0 a1 t122 t123 false))) else (vernierlaw12_FcmpNext.j0 k a0 a1 t122 t123 true)) else ((vernierref06_Inf.f true).bind fun t127 => (if a0 = t127 then (vernierlaw12_FcmpNext.j0 k a0 a1 t122 t123 (t123 != a0)) else (vernierlaw12_FcmpNext.j0 k a0 a1 t122 t123 false)))))) = some r := H
    have A7 := Aside0.mk A70
    clear A70
    by_cases c8 : t124 = 3
    · rw [if_pos c8] at H
      have c8b0 : (t124 == 3) = true := beq_iff_eq.mpr c8
      have c8b1 : (t124 != 3) = false := bne_eq_false_iff_eq.mpr c8
      clear c8
      by_cases c9 : t122 = 9221120237041090560
      · rw [if_pos c9] at H
        have c9b0 : (t122 == 9221120237041090560) = true := beq_iff_eq.mpr c9
        have c9b1 : (t122 != 9221120237041090560) = false := bne_eq_false_iff_eq.mpr c9
        clear c9
        obtain rfl := Option.some.inj H
        go_enter Try.func6, Try.ntmps6
        go_wp2_with (first | ((with_reducible refine gate_callee (f := 14) rfl ?_); refine goesL_ (some 8) rfl rfl Try.func14 (by kernel_rfl) rfl #[] rfl (by (try simp only [List.map_toArray, List.map_cons, List.map_nil]); first | done | rfl | (simp only [List.length_drop, List.length_take]; rfl)) ?_; (with_reducible refine (vernierlaw12_alive.calls k  true _ A3.out).mono ?_); rintro e w' ⟨rfl, ⟨nd, rfl⟩⟩; refine ⟨_, rfl, ?_⟩) | ((with_reducible refine gate_callee (f := 22) rfl ?_); refine goesL_ (some 11) rfl rfl Try.func22 (by kernel_rfl) rfl #[.int .u64 a0] rfl (by (try simp only [List.map_toArray, List.map_cons, List.map_nil]); first | done | rfl | (simp only [List.length_drop, List.length_take]; rfl)) ?_; (with_reducible refine (fcmp_Next.calls k a0 t122 _ A5.out).mono ?_); rintro e w' ⟨rfl, ⟨nd, rfl⟩⟩; refine ⟨_, rfl, ?_⟩) | ((with_reducible refine gate_callee (f := 23) rfl ?_); refine goesL_ (some 13) rfl rfl Try.func23 (by kernel_rfl) rfl #[.int .u64 a0] rfl (by (try simp only [List.map_toArray, List.map_cons, List.map_nil]); first | done | rfl | (simp only [List.length_drop, List.length_take]; rfl)) ?_; (with_reducible refine (fcmp_Prev.calls k a0 t123 _ A6.out).mono ?_); rintro e w' ⟨rfl, ⟨nd, rfl⟩⟩; refine ⟨_, rfl, ?_⟩) | ((with_reducible refine gate_callee (f := 12) rfl ?_); refine goesL_ (some 15) rfl rfl Try.func12 (by kernel_rfl) rfl #[.int .u64 a0] rfl (by (try simp only [List.map_toArray, List.map_cons, List.map_nil]); first | done | rfl | (simp only [List.length_drop, List.length_take]; rfl)) ?_; (with_reducible refine (vernierref06_Class.calls k a0 t124 _ A7.out).mono ?_); rintro e w' ⟨rfl, ⟨nd, rfl⟩⟩; refine ⟨_, rfl, ?_⟩))
        go_ret
        exact ⟨by first | rfl | (simp; done) | (simp [*]; done), by repeat (first | exact Drawn0.refl _ | apply Drawn0.step)⟩
      · rw [if_neg c9] at H
        have c9b0 : (t122 == 9221120237041090560) = false := beq_eq_false_iff_ne.mpr c9
        have c9b1 : (t122 != 9221120237041090560) = true := bne_iff_ne.mpr c9
        obtain rfl := Option.some.inj H
        go_enter Try.func6, Try.ntmps6
        go_wp2_with (first | ((with_reducible refine gate_callee (f := 14) rfl ?_); refine goesL_ (some 8) rfl rfl Try.func14 (by kernel_rfl) rfl #[] rfl (by (try simp only [List.map_toArray, List.map_cons, List.map_nil]); first | done | rfl | (simp only [List.length_drop, List.length_take]; rfl)) ?_; (with_reducible refine (vernierlaw12_alive.calls k  true _ A3.out).mono ?_); rintro e w' ⟨rfl, ⟨nd, rfl⟩⟩; refine ⟨_, rfl, ?_⟩) | ((with_reducible refine gate_callee (f := 22) rfl ?_); refine goesL_ (some 11) rfl rfl Try.func22 (by kernel_rfl) rfl #[.int .u64 a0] rfl (by (try simp only [List.map_toArray, List.map_cons, List.map_nil]); first | done | rfl | (simp only [List.length_drop, List.length_take]; rfl)) ?_; (with_reducible refine (fcmp_Next.calls k a0 t122 _ A5.out).mono ?_); rintro e w' ⟨rfl, ⟨nd, rfl⟩⟩; refine ⟨_, rfl, ?_⟩) | ((with_reducible refine gate_callee (f := 23) rfl ?_); refine goesL_ (some 13) rfl rfl Try.func23 (by kernel_rfl) rfl #[.int .u64 a0] rfl (by (try simp only [List.map_toArray, List.map_cons, List.map_nil]); first | done | rfl | (simp only [List.length_drop, List.length_take]; rfl)) ?_; (with_reducible refine (fcmp_Prev.calls k a0 t123 _ A6.out).mono ?_); rintro e w' ⟨rfl, ⟨nd, rfl⟩⟩; refine ⟨_, rfl, ?_⟩) | ((with_reducible refine gate_callee (f := 12) rfl ?_); refine goesL_ (some 15) rfl rfl Try.func12 (by kernel_rfl) rfl #[.int .u64 a0] rfl (by (try simp only [List.map_toArray, List.map_cons, List.map_nil]); first | done | rfl | (simp only [List.length_drop, List.length_take]; rfl)) ?_; (with_reducible refine (vernierref06_Class.calls k a0 t124 _ A7.out).mono ?_); rintro e w' ⟨rfl, ⟨nd, rfl⟩⟩; refine ⟨_, rfl, ?_⟩))
        go_ret
        exact ⟨by first | rfl | (simp; done) | (simp [*]; done), by repeat (first | exact Drawn0.refl _ | apply Drawn0.step)⟩
    · rw [if_neg c8] at H
      have c8b0 : (t124 == 3) = false := beq_eq_false_iff_ne.mpr c8
      have c8b1 : (t124 != 3) = true := bne_iff_ne.mpr c8
      have HC10 := Aside0.mk H
      clear H
      go_enter Try.func6, Try.ntmps6
      go_upto_region 6 with (first | ((with_reducible refine gate_callee (f := 14) rfl ?_); refine goesL_ (some 8) rfl rfl Try.func14 (by kernel_rfl) rfl #[] rfl (by (try simp only [List.map_toArray, List.map_cons, List.map_nil]); first | done | rfl | (simp only [List.length_drop, List.length_take]; rfl)) ?_; (with_reducible refine (vernierlaw12_alive.calls k  true _ A3.out).mono ?_); rintro e w' ⟨rfl, ⟨nd, rfl⟩⟩; refine ⟨_, rfl, ?_⟩) | ((with_reducible refine gate_callee (f := 22) rfl ?_); refine goesL_ (some 11) rfl rfl Try.func22 (by kernel_rfl) rfl #[.int .u64 a0] rfl (by (try simp only [List.map_toArray, List.map_cons, List.map_nil]); first | done | rfl | (simp only [List.length_drop, List.length_take]; rfl)) ?_; (with_reducible refine (fcmp_Next.calls k a0 t122 _ A5.out).mono ?_); rintro e w' ⟨rfl, ⟨nd, rfl⟩⟩; refine ⟨_, rfl, ?_⟩) | ((with_reducible refine gate_callee (f := 23) rfl ?_); refine goesL_ (some 13) rfl rfl Try.func23 (by kernel_rfl) rfl #[.int .u64 a0] rfl (by (try simp only [List.map_toArray, List.map_cons, List.map_nil]); first | done | rfl | (simp only [List.length_drop, List.length_take]; rfl)) ?_; (with_reducible refine (fcmp_Prev.calls k a0 t123 _ A6.out).mono ?_); rintro e w' ⟨rfl, ⟨nd, rfl⟩⟩; refine ⟨_, rfl, ?_⟩) | ((with_reducible refine gate_callee (f := 12) rfl ?_); refine goesL_ (some 15) rfl rfl Try.func12 (by kernel_rfl) rfl #[.int .u64 a0] rfl (by (try simp only [List.map_toArray, List.map_cons, List.map_nil]); first | done | rfl | (simp only [List.length_drop, List.length_take]; rfl)) ?_; (with_reducible refine (vernierref06_Class.calls k a0 t124 _ A7.out).mono ?_); rintro e w' ⟨rfl, ⟨nd, rfl⟩⟩; refine ⟨_, rfl, ?_⟩))
      (try simp only [Act.put, List.setIfInBounds_toArray, List.set_cons_zero, List.set_cons_succ])
      go_cut [40] (fun v40 wc => ∃ (kq : Nat) (x40_9 : Bool), v40 = .bool x40_9 ∧ Aside0 (vernierlaw12_FcmpNext.j0 kq a0 a1 t122 t123 x40_9 = some r) ∧ Aside0 (kq ≤ k) ∧ Drawn0 w wc)
      case first =>
        have H := HC10.out
        clear HC10
        replace H := Option.bind_eq_some_iff.mp H
        obtain ⟨t125, A110, H⟩ := H
        replace H : (if a0 = t125 then (if t122 = a0 then ((vernierref06_Inf.f true).bind fun t126 => (if a0 = t126 then (vernierlaw12_FcmpNext.j0 k a0 a1 t122 t123 (t123 != a0)) else (vernierlaw12_FcmpNext.j0 k a0 a1 t122 t123 false))) else (vernierlaw12_FcmpNext.j0 k a0 a1 t122 t123 true)) else ((vernierref06_Inf.f true).bind fun t127 => (if a0 = t127 then (vernierlaw12_FcmpNext.j0 k a0 a1 t122 t123 (t123 != a0)) else (vernierlaw12_FcmpNext.j0 k a0 a1 t122 t123 false)))) = some r := H
        have A11 := Aside0.mk A110
        clear A110
        by_cases c12 : a0 = t125
        · rw [if_pos c12] at H
          have c12b0 : (a0 == t125) = true := beq_iff_eq.mpr c12
          have c12b1 : (a0 != t125) = false := bne_eq_false_iff_eq.mpr c12
          clear c12
          (first | rw [c12b0] | (simp only [i64_w, i32_w]; rw [c12b0]) | skip)
          by_cases c13 : t122 = a0
          · rw [if_pos c13] at H
            have c13b0 : (t122 == a0) = true := beq_iff_eq.mpr c13
            have c13b1 : (t122 != a0) = false := bne_eq_false_iff_eq.mpr c13
            clear c13
            replace H := Option.bind_eq_some_iff.mp H
            obtain ⟨t126, A140, H⟩ := H
            replace H : (if a0 = t126 then (vernierlaw12_FcmpNext.j0 k a0 a1 t122 t123 (t123 != a0)) else (vernierlaw12_FcmpNext.j0 k a0 a1 t122 t123 false)) = some r := H
            have A14 := Aside0.mk A140
            clear A140
            by_cases c15 : a0 = t126
            · rw [if_pos c15] at H
              have c15b0 : (a0 == t126) = true := beq_iff_eq.mpr c15
              have c15b1 : (a0 != t126) = false := bne_eq_false_iff_eq.mpr c15
              clear c15
              have H' := Aside0.mk H
              clear H
              go_wp2_with (first | ((with_reducible refine gate_callee (f := 24) rfl ?_); refine goesL_ (some 24) rfl rfl Try.func24 (by kernel_rfl) rfl #[.bool false] rfl (by (try simp only [List.map_toArray, List.map_cons, List.map_nil]); first | done | rfl | (simp only [List.length_drop, List.length_take]; rfl)) ?_; (with_reducible refine (vernierref06_Inf.calls false t125 _ A11.out).mono ?_); rintro e w' ⟨rfl, ⟨nd, rfl⟩⟩; refine ⟨_, rfl, ?_⟩) | (go_at_call 24; (with_reducible refine (vernierref06_Inf.calls true t126 _ A14.out).mono ?_); rintro e w' ⟨rfl, ⟨nd, rfl⟩⟩))
              go_meet
              case rel => exact ⟨_, ((t123 != a0)), (by first | rfl | (simp; done) | (simp [*]; done)), H', ⟨by first | omega | exact Nat.le_refl _⟩, by repeat (first | exact Drawn0.refl _ | apply Drawn0.step)⟩
            · rw [if_neg c15] at H
              have c15b0 : (a0 == t126) = false := beq_eq_false_iff_ne.mpr c15
              have c15b1 : (a0 != t126) = true := bne_iff_ne.mpr c15
              have H' := Aside0.mk H
              clear H
              go_wp2_with (first | ((with_reducible refine gate_callee (f := 24) rfl ?_); refine goesL_ (some 24) rfl rfl Try.func24 (by kernel_rfl) rfl #[.bool false] rfl (by (try simp only [List.map_toArray, List.map_cons, List.map_nil]); first | done | rfl | (simp only [List.length_drop, List.length_take]; rfl)) ?_; (with_reducible refine (vernierref06_Inf.calls false t125 _ A11.out).mono ?_); rintro e w' ⟨rfl, ⟨nd, rfl⟩⟩; refine ⟨_, rfl, ?_⟩) | (go_at_call 24; (with_reducible refine (vernierref06_Inf.calls true t126 _ A14.out).mono ?_); rintro e w' ⟨rfl, ⟨nd, rfl⟩⟩))
              go_meet
              case rel => exact ⟨_, (false), (by first | rfl | (simp; done) | (simp [*]; done)), H', ⟨by first | omega | exact Nat.le_refl _⟩, by repeat (first | exact Drawn0.refl _ | apply Drawn0.step)⟩
          · rw [if_neg c13] at H
            have c13b0 : (t122 == a0) = false := beq_eq_false_iff_ne.mpr c13
            have c13b1 : (t122 != a0) = true := bne_iff_ne.mpr c13
            have H' := Aside0.mk H
            clear H
            go_wp2_with (first | ((with_reducible refine gate_callee (f := 24) rfl ?_); refine goesL_ (some 24) rfl rfl Try.func24 (by kernel_rfl) rfl #[.bool false] rfl (by (try simp only [List.map_toArray, List.map_cons, List.map_nil]); first | done | rfl | (simp only [List.length_drop, List.length_take]; rfl)) ?_; (with_reducible refine (vernierref06_Inf.calls false t125 _ A11.out).mono ?_); rintro e w' ⟨rfl, ⟨nd, rfl⟩⟩; refine ⟨_, rfl, ?_⟩))
            go_meet
            case rel => exact ⟨_, (true), (by first | rfl | (simp; done) | (simp [*]; done)), H', ⟨by first | omega | exact Nat.le_refl _⟩, by repeat (first | exact Drawn0.refl _ | apply Drawn0.step)⟩
        · rw [if_neg c12] at H
          have c12b0 : (a0 == t125) = false := beq_eq_false_iff_ne.mpr c12
          have c12b1 : (a0 != t125) = true := bne_iff_ne.mpr c12
          (first | rw [c12b0] | (simp only [i64_w, i32_w]; rw [c12b0]) | skip)
          replace H := Option.bind_eq_some_iff.mp H
          obtain ⟨t127, A160, H⟩ := H
          replace H : (if a0 = t127 then (vernierlaw12_FcmpNext.j0 k a0 a1 t122 t123 (t123 != a0)) else (vernierlaw12_FcmpNext.j0 k a0 a1 t122 t123 false)) = some r := H
          have A16 := Aside0.mk A160
          clear A160
          by_cases c17 : a0 = t127
          · rw [if_pos c17] at H
            have c17b0 : (a0 == t127) = true := beq_iff_eq.mpr c17
            have c17b1 : (a0 != t127) = false := bne_eq_false_iff_eq.mpr c17
            clear c17
            have H' := Aside0.mk H
            clear H
            go_wp2_with (first | ((with_reducible refine gate_callee (f := 24) rfl ?_); refine goesL_ (some 24) rfl rfl Try.func24 (by kernel_rfl) rfl #[.bool false] rfl (by (try simp only [List.map_toArray, List.map_cons, List.map_nil]); first | done | rfl | (simp only [List.length_drop, List.length_take]; rfl)) ?_; (with_reducible refine (vernierref06_Inf.calls false t125 _ A11.out).mono ?_); rintro e w' ⟨rfl, ⟨nd, rfl⟩⟩; refine ⟨_, rfl, ?_⟩) | (go_at_call 24; (with_reducible refine (vernierref06_Inf.calls true t127 _ A16.out).mono ?_); rintro e w' ⟨rfl, ⟨nd, rfl⟩⟩))
            go_meet
            case rel => exact ⟨_, ((t123 != a0)), (by first | rfl | (simp; done) | (simp [*]; done)), H', ⟨by first | omega | exact Nat.le_refl _⟩, by repeat (first | exact Drawn0.refl _ | apply Drawn0.step)⟩
          · rw [if_neg c17] at H
            have c17b0 : (a0 == t127) = false := beq_eq_false_iff_ne.mpr c17
            have c17b1 : (a0 != t127) = true := bne_iff_ne.mpr c17
            have H' := Aside0.mk H
            clear H
            go_wp2_with (first | ((with_reducible refine gate_callee (f := 24) rfl ?_); refine goesL_ (some 24) rfl rfl Try.func24 (by kernel_rfl) rfl #[.bool false] rfl (by (try simp only [List.map_toArray, List.map_cons, List.map_nil]); first | done | rfl | (simp only [List.length_drop, List.length_take]; rfl)) ?_; (with_reducible refine (vernierref06_Inf.calls false t125 _ A11.out).mono ?_); rintro e w' ⟨rfl, ⟨nd, rfl⟩⟩; refine ⟨_, rfl, ?_⟩) | (go_at_call 24; (with_reducible refine (vernierref06_Inf.calls true t127 _ A16.out).mono ?_); rintro e w' ⟨rfl, ⟨nd, rfl⟩⟩))
            go_meet
            case rel => exact ⟨_, (false), (by first | rfl | (simp; done) | (simp [*]; done)), H', ⟨by first | omega | exact Nat.le_refl _⟩, by repeat (first | exact Drawn0.refl _ | apply Drawn0.step)⟩
      case rest =>
        clear HC10
        try clear c1
        try clear c2
        try clear p2
        try clear c4
        try clear c6
        try clear c8
        try clear c8b0
        try clear c8b1
        try clear c9
        try clear c9b0
        try clear c9b1
        try clear c12
        try clear c12b0
        try clear c12b1
        try clear c13
        try clear c13b0
        try clear c13b1
        try clear c14
        try clear c15
        try clear c15b0
        try clear c15b1
        try clear c17
        try clear c17b0
        try clear c17b1
        obtain ⟨kq, x40_9, rfl, HA, HJ9, ⟨mc9, rfl⟩⟩ := hcut
        cases kq with
        | zero => exact absurd HA.out (by simp [vernierlaw12_FcmpNext.j0])
        | succ kj9 =>
          have H := HA.out
          clear HA
          simp only [vernierlaw12_FcmpNext.j0] at H
          by_cases c18 : x40_9 = true
          · subst c18
            have H1 : (some false) = some r := by rw [if_pos rfl] at H; exact H
            clear H
            have H := H1
            clear H1
            obtain rfl := Option.some.inj H
            go_wp2
            go_ret
            exact ⟨by first | rfl | (simp; done) | (simp [*]; done), by repeat (first | exact Drawn0.refl _ | apply Drawn0.step)⟩
          · replace c18 := Bool.eq_false_iff.mpr c18
            subst c18
            have H1 : ((vernierref06_Inf.f false).bind fun t128 => (if a0 = t128 then (vernierlaw12_FcmpNext.j1 kj9 a0 a1 t122 t123 false) else ((fcmp_Less.f kj9 a0 t122).bind fun t129 => (if t129 = true then ((fcmp_Less.f kj9 a0 a1).bind fun t130 => (if t130 = true then ((fcmp_Less.f kj9 a1 t122).bind fun t131 => (vernierlaw12_FcmpNext.j1 kj9 a0 a1 t122 t123 t131)) else (vernierlaw12_FcmpNext.j1 kj9 a0 a1 t122 t123 false))) else (vernierlaw12_FcmpNext.j1 kj9 a0 a1 t122 t123 true))))) = some r := by rw [if_neg (show ¬ (false = true) by decide)] at H; exact H
            clear H
            have H := H1
            clear H1
            have HC19 := Aside0.mk H
            clear H
            go_upto_region 8 with (fail)
            go_cut [59] (fun v59 wc => ∃ (kq : Nat) (x59_18 : Bool), v59 = .bool x59_18 ∧ Aside0 (vernierlaw12_FcmpNext.j1 kq a0 a1 t122 t123 x59_18 = some r) ∧ Aside0 (kq ≤ kj9) ∧ Drawn0 w wc)
            case first =>
              have H := HC19.out
              clear HC19
              replace H := Option.bind_eq_some_iff.mp H
              obtain ⟨t128, A200, H⟩ := H
              replace H : (if a0 = t128 then (vernierlaw12_FcmpNext.j1 kj9 a0 a1 t122 t123 false) else ((fcmp_Less.f kj9 a0 t122).bind fun t129 => (if t129 = true then ((fcmp_Less.f kj9 a0 a1).bind fun t130 => (if t130 = true then ((fcmp_Less.f kj9 a1 t122).bind fun t131 => (vernierlaw12_FcmpNext.j1 kj9 a0 a1 t122 t123 t131)) else (vernierlaw12_FcmpNext.j1 kj9 a0 a1 t122 t123 false))) else (vernierlaw12_FcmpNext.j1 kj9 a0 a1 t122 t123 true)))) = some r := H
              have A20 := Aside0.mk A200
              clear A200
              by_cases c21 : a0 = t128
              · rw [if_pos c21] at H
                have c21b0 : (a0 == t128) = true := beq_iff_eq.mpr c21
                have c21b1 : (a0 != t128) = false := bne_eq_false_iff_eq.mpr c21
                clear c21
                (first | rw [c21b0] | (simp only [i64_w, i32_w]; rw [c21b0]) | skip)
                have H' := Aside0.mk H
                clear H
                go_wp2_with (first | ((with_reducible refine gate_callee (f := 24) rfl ?_); refine goesL_ (some 42) rfl rfl Try.func24 (by kernel_rfl) rfl #[.bool false] rfl (by (try simp only [List.map_toArray, List.map_cons, List.map_nil]); first | done | rfl | (simp only [List.length_drop, List.length_take]; rfl)) ?_; (with_reducible refine (vernierref06_Inf.calls false t128 _ A20.out).mono ?_); rintro e w' ⟨rfl, ⟨nd, rfl⟩⟩; refine ⟨_, rfl, ?_⟩))
                go_meet
                case rel => exact ⟨_, (false), (by first | rfl | (simp; done) | (simp [*]; done)), H', ⟨by have := HJ9.out; first | omega | exact Nat.le_refl _⟩, by repeat (first | exact Drawn0.refl _ | apply Drawn0.step)⟩
              · rw [if_neg c21] at H
                have c21b0 : (a0 == t128) = false := beq_eq_false_iff_ne.mpr c21
                have c21b1 : (a0 != t128) = true := bne_iff_ne.mpr c21
                (first | rw [c21b0] | (simp only [i64_w, i32_w]; rw [c21b0]) | skip)
                replace H := Option.bind_eq_some_iff.mp H
                obtain ⟨t129, A220, H⟩ := H
                replace H : (if t129 = true then ((fcmp_Less.f kj9 a0 a1).bind fun t130 => (if t130 = true then ((fcmp_Less.f kj9 a1 t122).bind fun t131 => (vernierlaw12_FcmpNext.j1 kj9 a0 a1 t122 t123 t131)) else (vernierlaw12_FcmpNext.j1 kj9 a0 a1 t122 t123 false))) else (vernierlaw12_FcmpNext.j1 kj9 a0 a1 t122 t123 true)) = some r := H
                have A22 := Aside0.mk A220
                clear A220
                by_cases c23 : t129 = true
                · subst c23
                  have H1 : ((fcmp_Less.f kj9 a0 a1).bind fun t130 => (if t130 = true then ((fcmp_Less.f kj9 a1 t122).bind fun t131 => (vernierlaw12_FcmpNext.j1 kj9 a0 a1 t122 t123 t131)) else (vernierlaw12_FcmpNext.j1 kj9 a0 a1 t122 t123 false))) = some r := by rw [if_pos rfl] at H; exact H
                  clear H
                  have H := H1
                  clear H1
                  replace H := Option.bind_eq_some_iff.mp H
                  obtain ⟨t130, A240, H⟩ := H
                  replace H : (if t130 = true then ((fcmp_Less.f kj9 a1 t122).bind fun t131 => (vernierlaw12_FcmpNext.j1 kj9 a0 a1 t122 t123 t131)) else (vernierlaw12_FcmpNext.j1 kj9 a0 a1 t122 t123 false)) = some r := H
                  have A24 := Aside0.mk A240
                  clear A240
                  by_cases c25 : t130 = true
                  · subst c25
                    have H1 : ((fcmp_Less.f kj9 a1 t122).bind fun t131 => (vernierlaw12_FcmpNext.j1 kj9 a0 a1 t122 t123 t131)) = some r := by rw [if_pos rfl] at H; exact H
                    clear H
                    have H := H1
                    clear H1
                    replace H := Option.bind_eq_some_iff.mp H
                    obtain ⟨t131, A260, H⟩ := H
                    replace H : (vernierlaw12_FcmpNext.j1 kj9 a0 a1 t122 t123 t131) = some r := H
                    have A26 := Aside0.mk A260
                    clear A260
                    have H' := Aside0.mk H
                    clear H
                    go_wp2_with (first | ((with_reducible refine gate_callee (f := 24) rfl ?_); refine goesL_ (some 42) rfl rfl Try.func24 (by kernel_rfl) rfl #[.bool false] rfl (by (try simp only [List.map_toArray, List.map_cons, List.map_nil]); first | done | rfl | (simp only [List.length_drop, List.length_take]; rfl)) ?_; (with_reducible refine (vernierref06_Inf.calls false t128 _ A20.out).mono ?_); rintro e w' ⟨rfl, ⟨nd, rfl⟩⟩; refine ⟨_, rfl, ?_⟩) | (go_at_call 13; (with_reducible refine (fcmp_Less.calls kj9 a0 t122 true _ A22.out).mono ?_); rintro e w' ⟨rfl, ⟨nd, rfl⟩⟩) | (go_at_call 13; (with_reducible refine (fcmp_Less.calls kj9 a0 a1 true _ A24.out).mono ?_); rintro e w' ⟨rfl, ⟨nd, rfl⟩⟩) | (go_at_call 13; (with_reducible refine (fcmp_Less.calls kj9 a1 t122 t131 _ A26.out).mono ?_); rintro e w' ⟨rfl, ⟨nd, rfl⟩⟩))
                    go_meet
                    case rel => exact ⟨_, (t131), (by first | rfl | (simp; done) | (simp [*]; done)), H', ⟨by have := HJ9.out; first | omega | exact Nat.le_refl _⟩, by repeat (first | exact Drawn0.refl _ | apply Drawn0.step)⟩
                  · replace c25 := Bool.eq_false_iff.mpr c25
                    subst c25
                    have H1 : (vernierlaw12_FcmpNext.j1 kj9 a0 a1 t122 t123 false) = some r := by rw [if_neg (show ¬ (false = true) by decide)] at H; exact H
                    clear H
                    have H := H1
                    clear H1
                    have H' := Aside0.mk H
                    clear H
                    go_wp2_with (first | ((with_reducible refine gate_callee (f := 24) rfl ?_); refine goesL_ (some 42) rfl rfl Try.func24 (by kernel_rfl) rfl #[.bool false] rfl (by (try simp only [List.map_toArray, List.map_cons, List.map_nil]); first | done | rfl | (simp only [List.length_drop, List.length_take]; rfl)) ?_; (with_reducible refine (vernierref06_Inf.calls false t128 _ A20.out).mono ?_); rintro e w' ⟨rfl, ⟨nd, rfl⟩⟩; refine ⟨_, rfl, ?_⟩) | (go_at_call 13; (with_reducible refine (fcmp_Less.calls kj9 a0 t122 true _ A22.out).mono ?_); rintro e w' ⟨rfl, ⟨nd, rfl⟩⟩) | (go_at_call 13; (with_reducible refine (fcmp_Less.calls kj9 a0 a1 false _ A24.out).mono ?_); rintro e w' ⟨rfl, ⟨nd, rfl⟩⟩))
                    go_meet
                    case rel => exact ⟨_, (false), (by first | rfl | (simp; done) | (simp [*]; done)), H', ⟨by have := HJ9.out; first | omega | exact Nat.le_refl _⟩, by repeat (first | exact Drawn0.refl _ | apply Drawn0.step)⟩
                · replace c23 := Bool.eq_false_iff.mpr c23
                  subst c23
                  have H1 : (vernierlaw12_FcmpNext.j1 kj9 a0 a1 t122 t123 true) = some r := by rw [if_neg (show ¬ (false = true) by decide)] at H; exact H
                  clear H
                  have H := H1
                  clear H1
                  have H' := Aside0.mk H
                  clear H
                  go_wp2_with (first | ((with_reducible refine gate_callee (f := 24) rfl ?_); refine goesL_ (some 42) rfl rfl Try.func24 (by kernel_rfl) rfl #[.bool false] rfl (by (try simp only [List.map_toArray, List.map_cons, List.map_nil]); first | done | rfl | (simp only [List.length_drop, List.length_take]; rfl)) ?_; (with_reducible refine (vernierref06_Inf.calls false t128 _ A20.out).mono ?_); rintro e w' ⟨rfl, ⟨nd, rfl⟩⟩; refine ⟨_, rfl, ?_⟩) | (go_at_call 13; (with_reducible refine (fcmp_Less.calls kj9 a0 t122 false _ A22.out).mono ?_); rintro e w' ⟨rfl, ⟨nd, rfl⟩⟩))
                  go_meet
                  case rel => exact ⟨_, (true), (by first | rfl | (simp; done) | (simp [*]; done)), H', ⟨by have := HJ9.out; first | omega | exact Nat.le_refl _⟩, by repeat (first | exact Drawn0.refl _ | apply Drawn0.step)⟩
            case rest =>
              clear HC19
              try clear c1
              try clear c2
              try clear p2
              try clear c4
              try clear c6
              try clear c8
              try clear c8b0
              try clear c8b1
              try clear c9
              try clear c9b0
              try clear c9b1
              try clear c12
              try clear c12b0
              try clear c12b1
              try clear c13
              try clear c13b0
              try clear c13b1
              try clear c14
              try clear c15
              try clear c15b0
              try clear c15b1
              try clear c17
              try clear c17b0
              try clear c17b1
              try clear c18
              try clear c21
              try clear c21b0
              try clear c21b1
              try clear c22
              try clear c23
              try clear c24
              try clear c25
              try clear p2
              obtain ⟨kq, x59_18, rfl, HA, HJ18, ⟨mc18, rfl⟩⟩ := hcut
              cases kq with
              | zero => exact absurd HA.out (by simp [vernierlaw12_FcmpNext.j1])
              | succ kj18 =>
                have H := HA.out
                clear HA
                simp only [vernierlaw12_FcmpNext.j1] at H
                by_cases c27 : x59_18 = true
                · subst c27
                  have H1 : (some false) = some r := by rw [if_pos rfl] at H; exact H
                  clear H
                  have H := H1
                  clear H1
                  obtain rfl := Option.some.inj H
                  go_wp2
                  go_ret
                  exact ⟨by first | rfl | (simp; done) | (simp [*]; done), by repeat (first | exact Drawn0.refl _ | apply Drawn0.step)⟩
                · replace c27 := Bool.eq_false_iff.mpr c27
                  subst c27
                  have H1 : ((vernierref06_Inf.f true).bind fun t132 => (if a0 = t132 then (vernierlaw12_FcmpNext.j2 kj18 a0 t122 t123 false) else ((fcmp_Less.f kj18 t123 a0).bind fun t133 => (if t133 = true then ((fcmp_Less.f kj18 t123 a1).bind fun t134 => (if t134 = true then ((fcmp_Less.f kj18 a1 a0).bind fun t135 => (vernierlaw12_FcmpNext.j2 kj18 a0 t122 t123 t135)) else (vernierlaw12_FcmpNext.j2 kj18 a0 t122 t123 false))) else (vernierlaw12_FcmpNext.j2 kj18 a0 t122 t123 true))))) = some r := by rw [if_neg (show ¬ (false = true) by decide)] at H; exact H
                  clear H
                  have H := H1
                  clear H1
                  have HC28 := Aside0.mk H
                  clear H
                  go_upto_region 10 with (fail)
                  go_cut [78] (fun v78 wc => ∃ (kq : Nat) (x78_27 : Bool), v78 = .bool x78_27 ∧ Aside0 (vernierlaw12_FcmpNext.j2 kq a0 t122 t123 x78_27 = some r) ∧ Aside0 (kq ≤ kj18) ∧ Drawn0 w wc)
                  case first =>
                    have H := HC28.out
                    clear HC28
                    replace H := Option.bind_eq_some_iff.mp H
                    obtain ⟨t132, A290, H⟩ := H
                    replace H : (if a0 = t132 then (vernierlaw12_FcmpNext.j2 kj18 a0 t122 t123 false) else ((fcmp_Less.f kj18 t123 a0).bind fun t133 => (if t133 = true then ((fcmp_Less.f kj18 t123 a1).bind fun t134 => (if t134 = true then ((fcmp_Less.f kj18 a1 a0).bind fun t135 => (vernierlaw12_FcmpNext.j2 kj18 a0 t122 t123 t135)) else (vernierlaw12_FcmpNext.j2 kj18 a0 t122 t123 false))) else (vernierlaw12_FcmpNext.j2 kj18 a0 t122 t123 true)))) = some r := H
                    have A29 := Aside0.mk A290
                    clear A290
                    by_cases c30 : a0 = t132
                    · rw [if_pos c30] at H
                      have c30b0 : (a0 == t132) = true := beq_iff_eq.mpr c30
                      have c30b1 : (a0 != t132) = false := bne_eq_false_iff_eq.mpr c30
                      clear c30
                      (first | rw [c30b0] | (simp only [i64_w, i32_w]; rw [c30b0]) | skip)
                      have H' := Aside0.mk H
                      clear H
                      go_wp2_with (first | ((with_reducible refine gate_callee (f := 24) rfl ?_); refine goesL_ (some 61) rfl rfl Try.func24 (by kernel_rfl) rfl #[.bool true] rfl (by (try simp only [List.map_toArray, List.map_cons, List.map_nil]); first | done | rfl | (simp only [List.length_drop, List.length_take]; rfl)) ?_; (with_reducible refine (vernierref06_Inf.calls true t132 _ A29.out).mono ?_); rintro e w' ⟨rfl, ⟨nd, rfl⟩⟩; refine ⟨_, rfl, ?_⟩))
                      go_meet
                      case rel => exact ⟨_, (false), (by first | rfl | (simp; done) | (simp [*]; done)), H', ⟨by have := HJ9.out; have := HJ18.out; first | omega | exact Nat.le_refl _⟩, by repeat (first | exact Drawn0.refl _ | apply Drawn0.step)⟩
                    · rw [if_neg c30] at H
                      have c30b0 : (a0 == t132) = false := beq_eq_false_iff_ne.mpr c30
                      have c30b1 : (a0 != t132) = true := bne_iff_ne.mpr c30
                      (first | rw [c30b0] | (simp only [i64_w, i32_w]; rw [c30b0]) | skip)
                      replace H := Option.bind_eq_some_iff.mp H
                      obtain ⟨t133, A310, H⟩ := H
                      replace H : (if t133 = true then ((fcmp_Less.f kj18 t123 a1).bind fun t134 => (if t134 = true then ((fcmp_Less.f kj18 a1 a0).bind fun t135 => (vernierlaw12_FcmpNext.j2 kj18 a0 t122 t123 t135)) else (vernierlaw12_FcmpNext.j2 kj18 a0 t122 t123 false))) else (vernierlaw12_FcmpNext.j2 kj18 a0 t122 t123 true)) = some r := H
                      have A31 := Aside0.mk A310
                      clear A310
                      by_cases c32 : t133 = true
                      · subst c32
                        have H1 : ((fcmp_Less.f kj18 t123 a1).bind fun t134 => (if t134 = true then ((fcmp_Less.f kj18 a1 a0).bind fun t135 => (vernierlaw12_FcmpNext.j2 kj18 a0 t122 t123 t135)) else (vernierlaw12_FcmpNext.j2 kj18 a0 t122 t123 false))) = some r := by rw [if_pos rfl] at H; exact H
                        clear H
                        have H := H1
                        clear H1
                        replace H := Option.bind_eq_some_iff.mp H
                        obtain ⟨t134, A330, H⟩ := H
                        replace H : (if t134 = true then ((fcmp_Less.f kj18 a1 a0).bind fun t135 => (vernierlaw12_FcmpNext.j2 kj18 a0 t122 t123 t135)) else (vernierlaw12_FcmpNext.j2 kj18 a0 t122 t123 false)) = some r := H
                        have A33 := Aside0.mk A330
                        clear A330
                        by_cases c34 : t134 = true
                        · subst c34
                          have H1 : ((fcmp_Less.f kj18 a1 a0).bind fun t135 => (vernierlaw12_FcmpNext.j2 kj18 a0 t122 t123 t135)) = some r := by rw [if_pos rfl] at H; exact H
                          clear H
                          have H := H1
                          clear H1
                          replace H := Option.bind_eq_some_iff.mp H
                          obtain ⟨t135, A350, H⟩ := H
                          replace H : (vernierlaw12_FcmpNext.j2 kj18 a0 t122 t123 t135) = some r := H
                          have A35 := Aside0.mk A350
                          clear A350
                          have H' := Aside0.mk H
                          clear H
                          go_wp2_with (first | ((with_reducible refine gate_callee (f := 24) rfl ?_); refine goesL_ (some 61) rfl rfl Try.func24 (by kernel_rfl) rfl #[.bool true] rfl (by (try simp only [List.map_toArray, List.map_cons, List.map_nil]); first | done | rfl | (simp only [List.length_drop, List.length_take]; rfl)) ?_; (with_reducible refine (vernierref06_Inf.calls true t132 _ A29.out).mono ?_); rintro e w' ⟨rfl, ⟨nd, rfl⟩⟩; refine ⟨_, rfl, ?_⟩) | (go_at_call 13; (with_reducible refine (fcmp_Less.calls kj18 t123 a0 true _ A31.out).mono ?_); rintro e w' ⟨rfl, ⟨nd, rfl⟩⟩) | (go_at_call 13; (with_reducible refine (fcmp_Less.calls kj18 t123 a1 true _ A33.out).mono ?_); rintro e w' ⟨rfl, ⟨nd, rfl⟩⟩) | (go_at_call 13; (with_reducible refine (fcmp_Less.calls kj18 a1 a0 t135 _ A35.out).mono ?_); rintro e w' ⟨rfl, ⟨nd, rfl⟩⟩))
                          go_meet
                          case rel => exact ⟨_, (t135), (by first | rfl | (simp; done) | (simp [*]; done)), H', ⟨by have := HJ9.out; have := HJ18.out; first | omega | exact Nat.le_refl _⟩, by repeat (first | exact Drawn0.refl _ | apply Drawn0.step)⟩
                        · replace c34 := Bool.eq_false_iff.mpr c34
                          subst c34
                          have H1 : (vernierlaw12_FcmpNext.j2 kj18 a0 t122 t123 false) = some r := by rw [if_neg (show ¬ (false = true) by decide)] at H; exact H
                          clear H
                          have H := H1
                          clear H1
                          have H' := Aside0.mk H
                          clear H
                          go_wp2_with (first | ((with_reducible refine gate_callee (f := 24) rfl ?_); refine goesL_ (some 61) rfl rfl Try.func24 (by kernel_rfl) rfl #[.bool true] rfl (by (try simp only [List.map_toArray, List.map_cons, List.map_nil]); first | done | rfl | (simp only [List.length_drop, List.length_take]; rfl)) ?_; (with_reducible refine (vernierref06_Inf.calls true t132 _ A29.out).mono ?_); rintro e w' ⟨rfl, ⟨nd, rfl⟩⟩; refine ⟨_, rfl, ?_⟩) | (go_at_call 13; (with_reducible refine (fcmp_Less.calls kj18 t123 a0 true _ A31.out).mono ?_); rintro e w' ⟨rfl, ⟨nd, rfl⟩⟩) | (go_at_call 13; (with_reducible refine (fcmp_Less.calls kj18 t123 a1 false _ A33.out).mono ?_); rintro e w' ⟨rfl, ⟨nd, rfl⟩⟩))
                          go_meet
                          case rel => exact ⟨_, (false), (by first | rfl | (simp; done) | (simp [*]; done)), H', ⟨by have := HJ9.out; have := HJ18.out; first | omega | exact Nat.le_refl _⟩, by repeat (first | exact Drawn0.refl _ | apply Drawn0.step)⟩
                      · replace c32 := Bool.eq_false_iff.mpr c32
                        subst c32
                        have H1 : (vernierlaw12_FcmpNext.j2 kj18 a0 t122 t123 true) = some r := by rw [if_neg (show ¬ (false = true) by decide)] at H; exact H
                        clear H
                        have H := H1
                        clear H1
                        have H' := Aside0.mk H
                        clear H
                        go_wp2_with (first | ((with_reducible refine gate_callee (f := 24) rfl ?_); refine goesL_ (some 61) rfl rfl Try.func24 (by kernel_rfl) rfl #[.bool true] rfl (by (try simp only [List.map_toArray, List.map_cons, List.map_nil]); first | done | rfl | (simp only [List.length_drop, List.length_take]; rfl)) ?_; (with_reducible refine (vernierref06_Inf.calls true t132 _ A29.out).mono ?_); rintro e w' ⟨rfl, ⟨nd, rfl⟩⟩; refine ⟨_, rfl, ?_⟩) | (go_at_call 13; (with_reducible refine (fcmp_Less.calls kj18 t123 a0 false _ A31.out).mono ?_); rintro e w' ⟨rfl, ⟨nd, rfl⟩⟩))
                        go_meet
                        case rel => exact ⟨_, (true), (by first | rfl | (simp; done) | (simp [*]; done)), H', ⟨by have := HJ9.out; have := HJ18.out; first | omega | exact Nat.le_refl _⟩, by repeat (first | exact Drawn0.refl _ | apply Drawn0.step)⟩
                  case rest =>
                    clear HC28
                    try clear c1
                    try clear c2
                    try clear p2
                    try clear c3
                    try clear c4
                    try clear c6
                    try clear c8
                    try clear c8b0
                    try clear c8b1
                    try clear c9
                    try clear c9b0
                    try clear c9b1
                    try clear c12
                    try clear c12b0
                    try clear c12b1
                    try clear c13
                    try clear c13b0
                    try clear c13b1
                    try clear c14
                    try clear c15
                    try clear c15b0
                    try clear c15b1
                    try clear c17
                    try clear c17b0
                    try clear c17b1
                    try clear c18
                    try clear c21
                    try clear c21b0
                    try clear c21b1
                    try clear c22
                    try clear c23
                    try clear c24
                    try clear c25
                    try clear c27
                    try clear c30
                    try clear c30b0
                    try clear c30b1
                    try clear c32
                    try clear c34
                    try clear p2
                    obtain ⟨kq, x78_27, rfl, HA, HJ27, ⟨mc27, rfl⟩⟩ := hcut
                    cases kq with
                    | zero => exact absurd HA.out (by simp [vernierlaw12_FcmpNext.j2])
                    | succ kj27 =>
                      have H := HA.out
                      clear HA
                      simp only [vernierlaw12_FcmpNext.j2] at H
                      by_cases c36 : x78_27 = true
                      · subst c36
                        have H1 : (some false) = some r := by rw [if_pos rfl] at H; exact H
                        clear H
                        have H := H1
                        clear H1
                        obtain rfl := Option.some.inj H
                        go_wp2
                        go_ret
                        exact ⟨by first | rfl | (simp; done) | (simp [*]; done), by repeat (first | exact Drawn0.refl _ | apply Drawn0.step)⟩
                      · replace c36 := Bool.eq_false_iff.mpr c36
                        subst c36
                        have H1 : (if a0 = 9223372036854775809 then (if t122 = 9223372036854775808 then (if a0 = 1 then (vernierlaw12_FcmpNext.j3 kj27 a0 t122 (t123 != 0)) else (vernierlaw12_FcmpNext.j3 kj27 a0 t122 false)) else (vernierlaw12_FcmpNext.j3 kj27 a0 t122 true)) else (if a0 = 1 then (vernierlaw12_FcmpNext.j3 kj27 a0 t122 (t123 != 0)) else (vernierlaw12_FcmpNext.j3 kj27 a0 t122 false))) = some r := by rw [if_neg (show ¬ (false = true) by decide)] at H; exact H
                        clear H
                        have H := H1
                        clear H1
                        have HC37 := Aside0.mk H
                        clear H
                        go_upto_region 12 with (fail)
                        go_cut [92] (fun v92 wc => ∃ (kq : Nat) (x92_36 : Bool), v92 = .bool x92_36 ∧ Aside0 (vernierlaw12_FcmpNext.j3 kq a0 t122 x92_36 = some r) ∧ Aside0 (kq ≤ kj27) ∧ Drawn0 w wc)
                        case first =>
                          have H := HC37.out
                          clear HC37
                          by_cases c38 : a0 = 9223372036854775809
                          · rw [if_pos c38] at H
                            have c38b0 : (a0 == 9223372036854775809) = true := beq_iff_eq.mpr c38
                            have c38b1 : (a0 != 9223372036854775809) = false := bne_eq_false_iff_eq.mpr c38
                            clear c38
                            (first | rw [c38b0] | (simp only [i64_w, i32_w]; rw [c38b0]) | skip)
                            by_cases c39 : t122 = 9223372036854775808
                            · rw [if_pos c39] at H
                              have c39b0 : (t122 == 9223372036854775808) = true := beq_iff_eq.mpr c39
                              have c39b1 : (t122 != 9223372036854775808) = false := bne_eq_false_iff_eq.mpr c39
                              clear c39
                              by_cases c40 : a0 = 1
                              · rw [if_pos c40] at H
                                have c40b0 : (a0 == 1) = true := beq_iff_eq.mpr c40
                                have c40b1 : (a0 != 1) = false := bne_eq_false_iff_eq.mpr c40
                                clear c40
                                have H' := Aside0.mk H
                                clear H
                                go_wp2
                                go_meet
                                case rel => exact ⟨_, ((t123 != 0)), (by first | rfl | (simp; done) | (simp [*]; done)), H', ⟨by have := HJ9.out; have := HJ18.out; have := HJ27.out; first | omega | exact Nat.le_refl _⟩, by repeat (first | exact Drawn0.refl _ | apply Drawn0.step)⟩
                              · rw [if_neg c40] at H
                                have c40b0 : (a0 == 1) = false := beq_eq_false_iff_ne.mpr c40
                                have c40b1 : (a0 != 1) = true := bne_iff_ne.mpr c40
                                have H' := Aside0.mk H
                                clear H
                                go_wp2
                                go_meet
                                case rel => exact ⟨_, (false), (by first | rfl | (simp; done) | (simp [*]; done)), H', ⟨by have := HJ9.out; have := HJ18.out; have := HJ27.out; first | omega | exact Nat.le_refl _⟩, by repeat (first | exact Drawn0.refl _ | apply Drawn0.step)⟩
                            · rw [if_neg c39] at H
                              have c39b0 : (t122 == 9223372036854775808) = false := beq_eq_false_iff_ne.mpr c39
                              have c39b1 : (t122 != 9223372036854775808) = true := bne_iff_ne.mpr c39
                              have H' := Aside0.mk H
                              clear H
                              go_wp2
                              go_meet
                              case rel => exact ⟨_, (true), (by first | rfl | (simp; done) | (simp [*]; done)), H', ⟨by have := HJ9.out; have := HJ18.out; have := HJ27.out; first | omega | exact Nat.le_refl _⟩, by repeat (first | exact Drawn0.refl _ | apply Drawn0.step)⟩
                          · rw [if_neg c38] at H
                            have c38b0 : (a0 == 9223372036854775809) = false := beq_eq_false_iff_ne.mpr c38
                            have c38b1 : (a0 != 9223372036854775809) = true := bne_iff_ne.mpr c38
                            (first | rw [c38b0] | (simp only [i64_w, i32_w]; rw [c38b0]) | skip)
                            by_cases c41 : a0 = 1
                            · rw [if_pos c41] at H
                              have c41b0 : (a0 == 1) = true := beq_iff_eq.mpr c41
                              have c41b1 : (a0 != 1) = false := bne_eq_false_iff_eq.mpr c41
                              clear c41
                              have H' := Aside0.mk H
                              clear H
                              go_wp2
                              go_meet
                              case rel => exact ⟨_, ((t123 != 0)), (by first | rfl | (simp; done) | (simp [*]; done)), H', ⟨by have := HJ9.out; have := HJ18.out; have := HJ27.out; first | omega | exact Nat.le_refl _⟩, by repeat (first | exact Drawn0.refl _ | apply Drawn0.step)⟩
                            · rw [if_neg c41] at H
                              have c41b0 : (a0 == 1) = false := beq_eq_false_iff_ne.mpr c41
                              have c41b1 : (a0 != 1) = true := bne_iff_ne.mpr c41
                              have H' := Aside0.mk H
                              clear H
                              go_wp2
                              go_meet
                              case rel => exact ⟨_, (false), (by first | rfl | (simp; done) | (simp [*]; done)), H', ⟨by have := HJ9.out; have := HJ18.out; have := HJ27.out; first | omega | exact Nat.le_refl _⟩, by repeat (first | exact Drawn0.refl _ | apply Drawn0.step)⟩
                        case rest =>
                          clear HC37
                          try clear c1
                          try clear c2
                          try clear p2
                          try clear c3
                          try clear c4
                          try clear c6
                          try clear c8
                          try clear c8b0
                          try clear c8b1
                          try clear c9
                          try clear c9b0
                          try clear c9b1
                          try clear c12
                          try clear c12b0
                          try clear c12b1
                          try clear c13
                          try clear c13b0
                          try clear c13b1
                          try clear c14
                          try clear c15
                          try clear c15b0
                          try clear c15b1
                          try clear c17
                          try clear c17b0
                          try clear c17b1
                          try clear c18
                          try clear c21
                          try clear c21b0
                          try clear c21b1
                          try clear c22
                          try clear c23
                          try clear c24
                          try clear c25
                          try clear c27
                          try clear c30
                          try clear c30b0
                          try clear c30b1
                          try clear c32
                          try clear c34
                          try clear c36
                          try clear c38
                          try clear c38b0
                          try clear c38b1
                          try clear c39
                          try clear c39b0
                          try clear c39b1
                          try clear c40
                          try clear c40b0
                          try clear c40b1
                          try clear c41
                          try clear c41b0
                          try clear c41b1
                          try clear p2
                          obtain ⟨kq, x92_36, rfl, HA, HJ36, ⟨mc36, rfl⟩⟩ := hcut
                          cases kq with
                          | zero => exact absurd HA.out (by simp [vernierlaw12_FcmpNext.j3])
                          | succ kj36 =>
                            have H := HA.out
                            clear HA
                            simp only [vernierlaw12_FcmpNext.j3] at H
                            by_cases c42 : x92_36 = true
                            · subst c42
                              have H1 : (some false) = some r := by rw [if_pos rfl] at H; exact H
                              clear H
                              have H := H1
                              clear H1
                              obtain rfl := Option.some.inj H
                              go_wp2
                              go_ret
                              exact ⟨by first | rfl | (simp; done) | (simp [*]; done), by repeat (first | exact Drawn0.refl _ | apply Drawn0.step)⟩
                            · replace c42 := Bool.eq_false_iff.mpr c42
                              subst c42
                              have H1 : ((fcmp_Prev.f kj36 t122).bind fun t136 => ((vernierref06_Inf.f false).bind fun t137 => (if a0 = t137 then (some true) else (if t136 = a0 then (some true) else (if (IntKind.u64.wrap (t136 * 2)) = 0 then (some ((IntKind.u64.wrap (a0 * 2)) == 0)) else (some false)))))) = some r := by rw [if_neg (show ¬ (false = true) by decide)] at H; exact H
                              clear H
                              have H := H1
                              clear H1
                              replace H := Option.bind_eq_some_iff.mp H
                              obtain ⟨t136, A430, H⟩ := H
                              replace H : ((vernierref06_Inf.f false).bind fun t137 => (if a0 = t137 then (some true) else (if t136 = a0 then (some true) else (if (IntKind.u64.wrap (t136 * 2)) = 0 then (some ((IntKind.u64.wrap (a0 * 2)) == 0)) else (some false))))) = some r := H
                              have A43 := Aside0.mk A430
                              clear A430
                              replace H := Option.bind_eq_some_iff.mp H
                              obtain ⟨t137, A440, H⟩ := H
                              replace H : (if a0 = t137 then (some true) else (if t136 = a0 then (some true) else (if (IntKind.u64.wrap (t136 * 2)) = 0 then (some ((IntKind.u64.wrap (a0 * 2)) == 0)) else (some false)))) = some r := H
                              have A44 := Aside0.mk A440
                              clear A440
                              by_cases c45 : a0 = t137
                              · rw [if_pos c45] at H
                                have c45b0 : (a0 == t137) = true := beq_iff_eq.mpr c45
                                have c45b1 : (a0 != t137) = false := bne_eq_false_iff_eq.mpr c45
                                clear c45
                                obtain rfl := Option.some.inj H
                                go_wp2_with (first | ((with_reducible refine gate_callee (f := 23) rfl ?_); refine goesL_ (some 94) rfl rfl Try.func23 (by kernel_rfl) rfl #[.int .u64 t122] rfl (by (try simp only [List.map_toArray, List.map_cons, List.map_nil]); first | done | rfl | (simp only [List.length_drop, List.length_take]; rfl)) ?_; (with_reducible refine (fcmp_Prev.calls kj36 t122 t136 _ A43.out).mono ?_); rintro e w' ⟨rfl, ⟨nd, rfl⟩⟩; refine ⟨_, rfl, ?_⟩) | ((with_reducible refine gate_callee (f := 24) rfl ?_); refine goesL_ (some 96) rfl rfl Try.func24 (by kernel_rfl) rfl #[.bool false] rfl (by (try simp only [List.map_toArray, List.map_cons, List.map_nil]); first | done | rfl | (simp only [List.length_drop, List.length_take]; rfl)) ?_; (with_reducible refine (vernierref06_Inf.calls false t137 _ A44.out).mono ?_); rintro e w' ⟨rfl, ⟨nd, rfl⟩⟩; refine ⟨_, rfl, ?_⟩))
                                go_ret
                                exact ⟨by first | rfl | (simp; done) | (simp [*]; done), by repeat (first | exact Drawn0.refl _ | apply Drawn0.step)⟩
                              · rw [if_neg c45] at H
                                have c45b0 : (a0 == t137) = false := beq_eq_false_iff_ne.mpr c45
                                have c45b1 : (a0 != t137) = true := bne_iff_ne.mpr c45
                                by_cases c46 : t136 = a0
                                · rw [if_pos c46] at H
                                  have c46b0 : (t136 == a0) = true := beq_iff_eq.mpr c46
                                  have c46b1 : (t136 != a0) = false := bne_eq_false_iff_eq.mpr c46
                                  clear c46
                                  obtain rfl := Option.some.inj H
                                  go_wp2_with (first | ((with_reducible refine gate_callee (f := 23) rfl ?_); refine goesL_ (some 94) rfl rfl Try.func23 (by kernel_rfl) rfl #[.int .u64 t122] rfl (by (try simp only [List.map_toArray, List.map_cons, List.map_nil]); first | done | rfl | (simp only [List.length_drop, List.length_take]; rfl)) ?_; (with_reducible refine (fcmp_Prev.calls kj36 t122 t136 _ A43.out).mono ?_); rintro e w' ⟨rfl, ⟨nd, rfl⟩⟩; refine ⟨_, rfl, ?_⟩) | ((with_reducible refine gate_callee (f := 24) rfl ?_); refine goesL_ (some 96) rfl rfl Try.func24 (by kernel_rfl) rfl #[.bool false] rfl (by (try simp only [List.map_toArray, List.map_cons, List.map_nil]); first | done | rfl | (simp only [List.length_drop, List.length_take]; rfl)) ?_; (with_reducible refine (vernierref06_Inf.calls false t137 _ A44.out).mono ?_); rintro e w' ⟨rfl, ⟨nd, rfl⟩⟩; refine ⟨_, rfl, ?_⟩))
                                  go_ret
                                  exact ⟨by first | rfl | (simp; done) | (simp [*]; done), by repeat (first | exact Drawn0.refl _ | apply Drawn0.step)⟩
                                · rw [if_neg c46] at H
                                  have c46b0 : (t136 == a0) = false := beq_eq_false_iff_ne.mpr c46
                                  have c46b1 : (t136 != a0) = true := bne_iff_ne.mpr c46
                                  by_cases c47 : (IntKind.u64.wrap (t136 * 2)) = 0
                                  · rw [if_pos c47] at H
                                    have c47b0 : ((IntKind.u64.wrap (t136 * 2)) == 0) = true := beq_iff_eq.mpr c47
                                    have c47b1 : ((IntKind.u64.wrap (t136 * 2)) != 0) = false := bne_eq_false_iff_eq.mpr c47
                                    clear c47
                                    obtain rfl := Option.some.inj H
                                    go_wp2_with (first | ((with_reducible refine gate_callee (f := 23) rfl ?_); refine goesL_ (some 94) rfl rfl Try.func23 (by kernel_rfl) rfl #[.int .u64 t122] rfl (by (try simp only [List.map_toArray, List.map_cons, List.map_nil]); first | done | rfl | (simp only [List.length_drop, List.length_take]; rfl)) ?_; (with_reducible refine (fcmp_Prev.calls kj36 t122 t136 _ A43.out).mono ?_); rintro e w' ⟨rfl, ⟨nd, rfl⟩⟩; refine ⟨_, rfl, ?_⟩) | ((with_reducible refine gate_callee (f := 24) rfl ?_); refine goesL_ (some 96) rfl rfl Try.func24 (by kernel_rfl) rfl #[.bool false] rfl (by (try simp only [List.map_toArray, List.map_cons, List.map_nil]); first | done | rfl | (simp only [List.length_drop, List.length_take]; rfl)) ?_; (with_reducible refine (vernierref06_Inf.calls false t137 _ A44.out).mono ?_); rintro e w' ⟨rfl, ⟨nd, rfl⟩⟩; refine ⟨_, rfl, ?_⟩))
                                    go_ret
                                    exact ⟨by first | rfl | (simp; done) | (simp [*]; done), by repeat (first | exact Drawn0.refl _ | apply Drawn0.step)⟩
                                  · rw [if_neg c47] at H
                                    have c47b0 : ((IntKind.u64.wrap (t136 * 2)) == 0) = false := beq_eq_false_iff_ne.mpr c47
                                    have c47b1 : ((IntKind.u64.wrap (t136 * 2)) != 0) = true := bne_iff_ne.mpr c47
                                    obtain rfl := Option.some.inj H
                                    go_wp2_with (first | ((with_reducible refine gate_callee (f := 23) rfl ?_); refine goesL_ (some 94) rfl rfl Try.func23 (by kernel_rfl) rfl #[.int .u64 t122] rfl (by (try simp only [List.map_toArray, List.map_cons, List.map_nil]); first | done | rfl | (simp only [List.length_drop, List.length_take]; rfl)) ?_; (with_reducible refine (fcmp_Prev.calls kj36 t122 t136 _ A43.out).mono ?_); rintro e w' ⟨rfl, ⟨nd, rfl⟩⟩; refine ⟨_, rfl, ?_⟩) | ((with_reducible refine gate_callee (f := 24) rfl ?_); refine goesL_ (some 96) rfl rfl Try.func24 (by kernel_rfl) rfl #[.bool false] rfl (by (try simp only [List.map_toArray, List.map_cons, List.map_nil]); first | done | rfl | (simp only [List.length_drop, List.length_take]; rfl)) ?_; (with_reducible refine (vernierref06_Inf.calls false t137 _ A44.out).mono ?_); rintro e w' ⟨rfl, ⟨nd, rfl⟩⟩; refine ⟨_, rfl, ?_⟩))
                                    go_ret
                                    exact ⟨by first | rfl | (simp; done) | (simp [*]; done), by repeat (first | exact Drawn0.refl _ | apply Drawn0.step)⟩
  · replace c4 := Bool.eq_false_iff.mpr c4
    subst c4
    have H1 : (some false) = some r := by rw [if_neg (show ¬ (false = true) by decide)] at H; exact H
    clear H
    have H := H1
    clear H1
    obtain rfl := Option.some.inj H
    go_enter Try.func6, Try.ntmps6
    go_wp2_with (first | ((with_reducible refine gate_callee (f := 14) rfl ?_); refine goesL_ (some 8) rfl rfl Try.func14 (by kernel_rfl) rfl #[] rfl (by (try simp only [List.map_toArray, List.map_cons, List.map_nil]); first | done | rfl | (simp only [List.length_drop, List.length_take]; rfl)) ?_; (with_reducible refine (vernierlaw12_alive.calls k  false _ A3.out).mono ?_); rintro e w' ⟨rfl, ⟨nd, rfl⟩⟩; refine ⟨_, rfl, ?_⟩))
    go_ret
    exact ⟨by first | rfl | (simp; done) | (simp [*]; done), by repeat (first | exact Drawn0.refl _ | apply Drawn0.step)⟩

/-- THE ONE PURE STATEMENT of vernierlaw12_FcmpNext: yours. -/
def vernierlaw12_FcmpNext.Pure : Prop := ∀ (a0 : Int) (a1 : Int), (Lit.int .u64 a0).wf = true → (Lit.int .u64 a1).wf = true → ∃ k, vernierlaw12_FcmpNext.f k a0 a1 = some true
theorem vernierlaw12_FcmpNext.walk (P : vernierlaw12_FcmpNext.Pure) (a0 : Int) (a1 : Int) (w : World) (w0 : (Lit.int .u64 a0).wf = true) (w1 : (Lit.int .u64 a1).wf = true) :
    Calls Try.prog 6 #[.int .u64 a0, .int .u64 a1] w fun e w' => e = .returned (.bool true) ∧ Below w.heap.size w w' := by
  obtain ⟨k, h⟩ := P a0 a1 w0 w1
  refine (vernierlaw12_FcmpNext.calls k a0 a1 true w h).mono ?_
  rintro e w' ⟨rfl, hd⟩
  exact ⟨rfl, hd.below⟩

end Go.Proofs.Ythmakmmfbdmdfaa.PFcmpNext
