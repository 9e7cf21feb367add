/- The references' naturals, walked: cut. -/
import Derived.Test.YthmakmmfbdmdfaaPFcmpTellsx1
import Derived.Test.YthmakmmfbdmdfaaOwnDig
set_option linter.unusedVariables false
set_option linter.unusedSimpArgs false
namespace Go.Proofs.Ythmakmmfbdmdfaa.OwnNum
open Go.RowKit Go.Proofs.Ythmakmmfbdmdfaa.PFcmpTells Go.Proofs.Ythmakmmfbdmdfaa.OwnDig Go.Proofs.YthmakmmfbdmdfaaW.PrintWords Go.Proofs.YthmakmmfbdmdfaaW.PrintLast Go.Proofs.YthmakmmfbdmdfaaW.PrintMore
attribute [local go_sem] max2_int min2_int max_two min_two max_three min_three max_four min_four

set_option maxHeartbeats 400000 in
set_option maxRecDepth 100000 in
theorem cut_calls (A : Option Addr) (c : Nat) (l : List Int) (w : World) (hl : l.length ≤ 1000000) (hc : l.length ≤ c) (hr : Kd.C (Kd.int .i64) w A l.length l) :
    Calls Try.prog 65 #[.slice A l.length c] w fun e w' => e = .returned (.slice A (cutFrom l l.length) c) ∧ w = w' := by
  have HR := Aside0.mk hr
  clear hr
  obtain ⟨i0, hi0, _, hsz0, _⟩ := info_parts info3
  go_enter Try.func65, Try.ntmps65
  go_wp2
  go_loop [3] (fun v => ∃ n : Nat, n ≤ l.length ∧ v = .int .i64 n ∧ Aside0 (cutFrom l n = cutFrom l l.length)) (fun v => (intOf v).toNat)
  case atStart => exact ⟨l.length, Nat.le_refl _, rfl, ⟨rfl⟩⟩
  case round =>
    obtain ⟨n, hn, rfl, HE⟩ := hrel
    have hcut := cut_to (P := Try.prog) 69 3 .i64 Try.underlying69 hi0 A l.length c (n : Int) (by omega) (by omega) hc
    rw [Int.toNat_natCast] at hcut
    cases n with
    | zero =>
      go_wp2
      go_ret
      exact ⟨by rw [← HE.out]; rfl, rfl⟩
    | succ m =>
      obtain ⟨ad, rfl, hx⟩ := Kd.at_int HR.out (m : Int) (by omega) (by omega)
      rw [Int.toNat_natCast] at hx
      by_cases hz : rd l m = 0
      · have HE2 := Aside0.mk (show cutFrom l m = cutFrom l l.length by rw [← HE.out]; simp [cutFrom, hz])
        have hzb : (rd l m == 0) = true := by simpa using hz
        clear hz
        go_wp2
        go_round
        case rel => exact ⟨m, by omega, by go_num, HE2⟩
        case measure => (simp [intOf] <;> omega)
      · have HE2 := Aside0.mk (show m + 1 = cutFrom l l.length by rw [← HE.out]; simp [cutFrom, hz])
        have hzb : (rd l m == 0) = false := by simpa using hz
        clear hz
        go_wp2
        go_ret
        exact ⟨by rw [← HE2.out] <;> first | rfl | (simp; done), rfl⟩

set_option maxHeartbeats 400000 in
set_option maxRecDepth 100000 in
theorem cmp_same (A B : Option Addr) (c d : Nat) (l m : List Int) (w : World) (hl : l.length ≤ 1000000) (he : l.length = m.length) (hdl : dig l) (hdm : dig m)
    (hr : Kd.C (Kd.int .i64) w A l.length l) (hs : Kd.C (Kd.int .i64) w B m.length m) :
    Calls Try.prog 44 #[.slice A l.length c, .slice B m.length d] w fun e w' => e = .returned (.int .i64 (sgn (val l) (val m))) ∧ Drawn0 w w' := by
  have HR := Aside0.mk hr
  have HS := Aside0.mk hs
  have HE := Aside0.mk he
  have HD := Aside0.mk hdl
  have HM := Aside0.mk hdm
  have hlm : m.length ≤ 1000000 := by omega
  have heb : ((l.length : Int) == (m.length : Int)) = true := by rw [he]; simp
  have heb2 : ((l.length : Int) != (m.length : Int)) = false := by rw [he]; simp
  have heb3 : (l.length == m.length) = true := by rw [he]; simp
  have heb4 : (l.length != m.length) = false := by rw [he]; simp
  clear hr hs he hdl hdm
  go_enter Try.func44, Try.ntmps44
  go_wp2
  go_loopw [5] (fun v wr => ∃ (n q : Nat), n ≤ l.length ∧ v = .int .i64 ((n : Int) - 1) ∧ wr = w.drewN q ∧ Aside0 (val (l.take n) - val (m.take n) = val l - val m)) (fun v _ => (intOf v + 1).toNat)
  case atStart => exact ⟨l.length, 0, Nat.le_refl _, rfl, rfl, ⟨by rw [HE.out, List.take_of_length_le (Nat.le_of_eq HE.out), List.take_of_length_le (Nat.le_refl _)]⟩⟩
  case round =>
    obtain ⟨n, q, hn, rfl, rfl, HV⟩ := hrel
    cases n with
    | zero =>
      rw [show ((0 : Nat) : Int) - 1 = -1 from rfl]
      have HZ := Aside0.mk (show val l = val m by have := HV.out; simp [val] at this; omega)
      clear HV
      go_wp2
      go_ret
      exact ⟨by rw [sgn_eq HZ.out] <;> rfl, by repeat (first | exact Drawn0.refl _ | apply Drawn0.step)⟩
    | succ k =>
      rw [show (((k + 1 : Nat) : Int) - 1) = (k : Int) from by omega]
      have HN := Aside0.mk (show k < m.length by have := HE.out; omega)
      obtain ⟨ad, rfl, hx⟩ := Kd.at_int HR.out (k : Int) (by omega) (by omega)
      obtain ⟨bd, rfl, hy⟩ := Kd.at_int HS.out (k : Int) (by omega) (by have := HN.out; omega)
      rw [Int.toNat_natCast] at hx hy
      have b1 : (k : Int) < l.length := by omega
      have b2 : (k : Int) < m.length := by have := HN.out; omega
      rcases Int.lt_trichotomy (rd l k) (rd m k) with h | h | h
      · have HZ := Aside0.mk (show val l < val m by have := take_lt HD.out HM.out (by omega) HN.out h; have := HV.out; omega)
        have t1 : decide (rd l k < rd m k) = true := by simpa using h
        clear h HV
        go_wp2
        go_quiet (fail)
        go_wp2
        go_ret
        exact ⟨by rw [sgn_lt HZ.out] <;> rfl, by repeat (first | exact Drawn0.refl _ | apply Drawn0.step)⟩
      · have HZ := Aside0.mk (show val (l.take k) - val (m.take k) = val l - val m by
          have := HV.out
          rw [take_succ_val (by omega), take_succ_val HN.out, h] at this; omega)
        have t1 : decide (rd l k < rd m k) = false := by simp; omega
        have t2 : decide (rd m k < rd l k) = false := by simp; omega
        clear h HV
        go_wp2
        go_quiet (fail)
        go_wp2
        go_quiet (fail)
        go_wp2
        go_roundw
        case rel => exact ⟨k, _, by omega, by first | rfl | go_num, rfl, HZ⟩
        case measure => (simp [intOf] <;> omega)
      · have HZ := Aside0.mk (show val m < val l by have := take_lt HM.out HD.out HN.out (by omega) h; have := HV.out; omega)
        have t1 : decide (rd l k < rd m k) = false := by simp; omega
        have t2 : decide (rd m k < rd l k) = true := by simpa using h
        clear h HV
        go_wp2
        go_quiet (fail)
        go_wp2
        go_quiet (fail)
        go_wp2
        go_ret
        exact ⟨by rw [sgn_gt HZ.out] <;> rfl, by repeat (first | exact Drawn0.refl _ | apply Drawn0.step)⟩

set_option maxHeartbeats 400000 in
set_option maxRecDepth 100000 in
theorem cmp_calls (A B : Option Addr) (c d : Nat) (l m : List Int) (w : World) (hl : l.length ≤ 1000000) (hm : m.length ≤ 1000000) (hdl : dig l) (hdm : dig m) (htl : top l) (htm : top m)
    (hr : Kd.C (Kd.int .i64) w A l.length l) (hs : Kd.C (Kd.int .i64) w B m.length m) :
    Calls Try.prog 44 #[.slice A l.length c, .slice B m.length d] w fun e w' => e = .returned (.int .i64 (sgn (val l) (val m))) ∧ Drawn0 w w' := by
  rcases Nat.lt_trichotomy l.length m.length with h | h | h
  · have HZ := Aside0.mk (val_lt_of_len hdl hdm htm h)
    have t1 : (l.length == m.length) = false := by simp; omega
    have t2 : (l.length != m.length) = true := by simp; omega
    have t3 : decide (l.length < m.length) = true := by simpa using h
    have t4 : ((l.length : Int) == (m.length : Int)) = false := by simp; omega
    have t5 : ((l.length : Int) != (m.length : Int)) = true := by simp; omega
    have t6 : decide ((l.length : Int) < (m.length : Int)) = true := by simp; omega
    clear h hdl hdm htl htm hr hs
    go_enter Try.func44, Try.ntmps44
    go_wp2
    go_ret
    exact ⟨by rw [sgn_lt HZ.out] <;> rfl, Drawn0.refl _⟩
  · exact cmp_same A B c d l m w hl h hdl hdm hr hs
  · have HZ := Aside0.mk (val_lt_of_len hdm hdl htl h)
    have t1 : (l.length == m.length) = false := by simp; omega
    have t2 : (l.length != m.length) = true := by simp; omega
    have t3 : decide (l.length < m.length) = false := by simp; omega
    have t4 : ((l.length : Int) == (m.length : Int)) = false := by simp; omega
    have t5 : ((l.length : Int) != (m.length : Int)) = true := by simp; omega
    have t6 : decide ((l.length : Int) < (m.length : Int)) = false := by simp; omega
    clear h hdl hdm htl htm hr hs
    go_enter Try.func44, Try.ntmps44
    go_wp2
    go_ret
    exact ⟨by rw [sgn_gt HZ.out] <;> rfl, Drawn0.refl _⟩
end Go.Proofs.Ythmakmmfbdmdfaa.OwnNum
