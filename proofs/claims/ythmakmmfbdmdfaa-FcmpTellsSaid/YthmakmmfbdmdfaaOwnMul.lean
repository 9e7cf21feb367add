/- The references' naturals, walked: times one digit. -/
import Derived.Test.YthmakmmfbdmdfaaOwnNum
set_option linter.unusedVariables false
set_option linter.unusedSimpArgs false
namespace Go.Proofs.Ythmakmmfbdmdfaa.OwnNum
open Go.RowKit Go.Proofs.Ythmakmmfbdmdfaa.PFcmpTells Go.Proofs.Ythmakmmfbdmdfaa.OwnDig Go.Proofs.YthmakmmfbdmdfaaW.PrintWords Go.Proofs.YthmakmmfbdmdfaaW.PrintLast Go.Proofs.YthmakmmfbdmdfaaW.PrintMore
attribute [local go_sem] max2_int min2_int max_two min_two max_three min_three max_four min_four

set_option maxHeartbeats 400000 in
set_option maxRecDepth 100000 in
theorem mul_calls (A : Option Addr) (bd : Addr) (c d : Nat) (l : List Int) (p : Int) (w : World) (hl : l.length ≤ 1000) (hp0 : 1 ≤ p) (hp1 : p ≤ 32768) (hdl : dig l)
    (hr : Kd.C (Kd.int .i64) w A l.length l) (hy0 : w.cell? bd = some (.int .i64 p)) :
    Calls Try.prog 66 #[.slice A l.length c, .slice (some bd) 1 d] w fun e w' => ∃ v L, e = .returned v ∧ Kd.R (Kd.int .i64) 3 w' w.heap.size (fun _ => True) v L ∧ Below w.heap.size w w' ∧ dig L ∧ top L ∧ val L = val l * p ∧ L.length ≤ l.length + 2 := by
  have HR := Aside0.mk hr
  have HD := Aside0.mk hdl
  clear hr hdl
  have HB := Aside0.mk (Below.refl w.heap.size w)
  go_enter Try.func66, Try.ntmps66
  go_wp2_with (first | ((with_reducible refine gate_dst (N := 15) rfl ?_); refine Kd.R_make (Kd.int .i64) _ 3 rfl (N := 15) rfl 69 _ _ rfl ((l.length : Int) + 2) ?hx1 ?hx2 Try.underlying69 (.int .i64 0) 8 info3 rfl (by decide) (by omega) 0 (ok := fun _ => True) (okp := fun _ => True) rfl (fun _ hk => hk) trivial (by omega) (by omega) (Below.refl _ _) (Nat.le_refl _) ?_; (case hx1 => first | rfl | (simp; done) | skip); (case hx2 => first | rfl | (simp; done) | skip); intro v0 w1 ho hb hg_ hnew_; clear hg_ hnew_; have HO := Aside0.mk ho; clear HB; have HB := Aside0.mk hb; clear ho hb))
  obtain ⟨g, cap, rfl, hg, _, _⟩ := Kd.R_form HO.out (by simp; omega)
  have hn2 : (List.replicate ((l.length : Int) + 2).toNat (0 : Int)).length = l.length + 2 := by simp; omega
  rw [hn2]
  rw [hn2] at HO
  have HS0 := Aside0.mk (show St l p 0 (List.replicate ((l.length : Int) + 2).toNat 0) 0 0 by rw [show ((l.length : Int) + 2).toNat = l.length + 2 by omega]; exact St_start l p)
  generalize List.replicate ((l.length : Int) + 2).toNat (0 : Int) = L0 at HO HS0
  have HG := Aside0.mk hg
  clear hn2 hg
  go_loopw [6] (fun v6 wr => ∃ (i : Nat) (L : List Int), i ≤ l.length ∧ v6 = .int .i64 i ∧ Aside0 (St l p i L 0 0) ∧ Aside0 (Kd.R (Kd.int .i64) 3 wr w.heap.size (fun _ => True) (.slice (some ⟨g, 0, none⟩) (l.length + 2) cap) L) ∧ Aside0 (Below w.heap.size w wr)) (fun v6 _ => l.length - (intOf v6).toNat)
  case atStart => exact ⟨0, L0, Nat.zero_le _, rfl, HS0, HO, HB⟩
  case round =>
    clear HS0 HO HB
    obtain ⟨i, L1, hi, rfl, HS, HO, HB⟩ := hrel
    by_cases hlt : i < l.length
    · obtain ⟨wo, rfl⟩ : ∃ wo : World, wo = wr := ⟨_, rfl⟩
      go_wp2
      go_loopw [7, 8] (fun v7 v8 wr => ∃ (k : Nat) (cc : Int) (L : List Int), k ≤ 2 ∧ 0 ≤ cc ∧ cc ≤ 32768 ∧ v7 = .int .i64 cc ∧ v8 = .int .i64 k ∧ Aside0 (St l p i L k cc) ∧ Aside0 (Kd.R (Kd.int .i64) 3 wr w.heap.size (fun _ => True) (.slice (some ⟨g, 0, none⟩) (l.length + 2) cap) L) ∧ Aside0 (Below w.heap.size w wr)) (fun _ v8 _ => 3 - (intOf v8).toNat)
      case atStart => exact ⟨0, 0, L1, by omega, by omega, by omega, rfl, rfl, HS, HO, HB⟩
      case round =>
        clear HS HO HB
        obtain ⟨k, cc, L, hk, hc0, hc1, rfl, rfl, HS, HO, HB⟩ := hrel
        have hk3 : k = 0 ∨ k = 1 ∨ k = 2 := by omega
        rcases hk3 with rfl | rfl | rfl
        · obtain rfl := St_c0 HS.out
          obtain ⟨ad, rfl, hx⟩ := Kd.at_int HR.out (i : Int) (by omega) (by omega)
          rw [Int.toNat_natCast] at hx
          replace hx := (HB.out.cell (World.block_lt_of_cell? w _ hx)).trans hx
          have hy := (HB.out.cell (World.block_lt_of_cell? w _ hy0)).trans hy0
          obtain ⟨hz, hf⟩ := Kd.R_celln 0 HO.out (i : Int) (by omega) (by omega)
          replace hz : wr.cell? ⟨g, i, none⟩ = some (.int .i64 (rd L i)) := hz
          replace hf : wr.frozen? ⟨g, i, none⟩ = false := hf
          have HS1 := Aside0.mk (St_one HD.out hp0 hp1 hlt HS.out)
          obtain ⟨d0, d1⟩ := dig_rd (St_dig HS.out) i
          obtain ⟨e0, e1⟩ := prod_bd HD.out hp0 hp1 i
          rw [show ((0 : Nat) : Int) = 0 from rfl]
          go_wp2
          go_quiet (fail)
          go_wp2
          go_roundw
          case rel => exact ⟨1, (rd L i + rd l i * p) / 65536, L.set i ((rd L i + rd l i * p) % 65536), by omega, by omega, by omega, by first | rfl | (simp; done), by first | rfl | (simp; done), HS1, ⟨(Kd.R_putg (Kd.R_drewN HO.out _) (i : Int) _).1⟩, ⟨below_set (by repeat (first | (with_reducible first | exact HB.out | apply below_alloc | apply pw_below_drewN | apply below_drew1) | exact HB.out)) HG.out⟩⟩
          case measure => (simp [intOf] <;> omega)
        · rw [show ((1 : Nat) : Int) = 1 from rfl]
          by_cases hc : 0 < cc
          · obtain ⟨hz0, hs2⟩ := St_two hlt hc0 hc1 HS.out
            have HS2 := Aside0.mk hs2
            clear hs2
            obtain ⟨hz, hf⟩ := Kd.R_celln 0 HO.out ((i + 1 : Nat) : Int) (by omega) (by omega)
            replace hz : wr.cell? ⟨g, i + 1, none⟩ = some (.int .i64 (rd L ((i + 1 : Nat) : Int))) := hz
            replace hf : wr.frozen? ⟨g, i + 1, none⟩ = false := hf
            rw [hz0] at hz
            clear hz0
            have hq : cc / 65536 = 0 := by omega
            have hq2 : cc % 65536 = cc := by omega
            have HQ := Aside0.mk hq
            have HQ2 := Aside0.mk hq2
            clear hq hq2
            go_wp2
            go_roundw
            case rel => exact ⟨2, 0, L.set (i + 1) cc, by omega, by omega, by omega, by rw [HQ.out], by first | rfl | (simp; done), HS2, ⟨by first | exact (Kd.R_putg HO.out ((i + 1 : Nat) : Int) _).1 | (rw [HQ2.out]; exact (Kd.R_putg HO.out ((i + 1 : Nat) : Int) _).1)⟩, ⟨below_set (by repeat (first | (with_reducible first | exact HB.out | apply below_alloc | apply pw_below_drewN | apply below_drew1) | exact HB.out)) HG.out⟩⟩
            case measure => (simp [intOf] <;> omega)
          · obtain rfl : cc = 0 := by omega
            have HS2 := Aside0.mk (St_end (.inl rfl) HS.out)
            go_wp2
            go_roundw
            case rel => exact ⟨i + 1, L, by omega, by first | rfl | go_num, HS2, HO, HB⟩
            case measure => (simp [intOf] <;> omega)
        · obtain rfl := St_c2 HS.out
          rw [show ((2 : Nat) : Int) = 2 from rfl]
          have HS2 := Aside0.mk (St_end (.inr rfl) HS.out)
          go_wp2
          go_roundw
          case rel => exact ⟨i + 1, L, by omega, by first | rfl | go_num, HS2, HO, HB⟩
          case measure => (simp [intOf] <;> omega)
    · obtain rfl : i = l.length := by omega
      obtain ⟨q1, q2, q3⟩ := St_done HS.out
      have HC : Aside0 (Calls Try.prog 65 #[.slice (some ⟨g, 0, none⟩) (l.length + 2) cap] wr fun e w' => e = .returned (.slice (some ⟨g, 0, none⟩) (cutFrom L1 L1.length) cap) ∧ wr = w') := by
        obtain ⟨_, hcap, hC⟩ := Kd.R_reads' HO.out
        have h := cut_calls (some ⟨g, 0, none⟩) cap L1 wr (by omega) (by omega) hC
        rw [q2] at h
        exact ⟨by rw [q2]; exact h⟩
      have HV := Aside0.mk (show val (L1.take (cutFrom L1 L1.length)) = val l * p by rw [cut_val L1 _ (Nat.le_refl _), List.take_of_length_le (Nat.le_refl _)]; exact q3)
      have HD1 := Aside0.mk (dig_take q1 (cutFrom L1 L1.length))
      have HT := Aside0.mk (cut_top L1 L1.length (Nat.le_refl _))
      have HN := Aside0.mk (show (L1.take (cutFrom L1 L1.length)).length ≤ l.length + 2 by rw [List.length_take]; omega)
      clear q1 q2 q3
      go_wp2_with (go_at_call 65; (with_reducible refine HC.out.mono ?_); rintro e w' ⟨rfl, rfl⟩)
      go_ret
      exact ⟨_, _, rfl, Kd.R_take HO.out (cut_le _ _), HB.out, HD1.out, HT.out, HV.out, HN.out⟩
end Go.Proofs.Ythmakmmfbdmdfaa.OwnNum
