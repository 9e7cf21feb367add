/- The references' naturals, walked: shifted up. -/
import Derived.Test.YthmakmmfbdmdfaaOwnOf
set_option linter.unusedVariables false
set_option linter.unusedSimpArgs false
namespace Go.Proofs.Ythmakmmfbdmdfaa.OwnNum
open Go.RowKit Go.Proofs.Ythmakmmfbdmdfaa.PFcmpTells Go.Proofs.Ythmakmmfbdmdfaa.OwnDig Go.Proofs.YthmakmmfbdmdfaaW.PrintWords Go.Proofs.YthmakmmfbdmdfaaW.PrintLast Go.Proofs.YthmakmmfbdmdfaaW.PrintMore
attribute [local go_sem] max2_int min2_int max_two min_two max_three min_three max_four min_four

theorem two_bd : ∀ {i : Nat}, i ≤ 15 → (1 : Int) ≤ 2 ^ i ∧ (2 : Int) ^ i ≤ 32768 := by
  have : ∀ i : Fin 16, (1 : Int) ≤ 2 ^ i.val ∧ (2 : Int) ^ i.val ≤ 32768 := by decide +kernel
  intro i h
  exact this ⟨i, by omega⟩
theorem pow16 (a : Nat) : (65536 : Int) ^ a = 2 ^ (16 * a) := by rw [Int.pow_mul]; rfl
theorem shl_val {n : Int} (h0 : 0 ≤ n) (L : List Int) (v : Int) (hv : val L = v * 2 ^ (n % 16).toNat) :
    val (List.replicate (n / 16).toNat 0 ++ L) = v * 2 ^ n.toNat := by
  rw [val_append, val_zeros, hv, List.length_replicate, pow16]
  have e : n.toNat = 16 * (n / 16).toNat + (n % 16).toNat := by omega
  rw [e, Int.pow_add]
  grind

set_option maxHeartbeats 400000 in
set_option maxRecDepth 100000 in
theorem shl_calls (A : Option Addr) (c : Nat) (l : List Int) (n : Int) (w : World) (hl : l.length ≤ 1000) (hn0 : 0 ≤ n) (hn1 : n ≤ 3000) (hdl : dig l) (hr : Kd.C (Kd.int .i64) w A l.length l) :
    Calls Try.prog 45 #[.slice A l.length c, .int .i64 n] w fun e w' => ∃ v L, e = .returned v ∧ Kd.R (Kd.int .i64) 3 w' w.heap.size (fun _ => True) v L ∧ Below w.heap.size w w' ∧ dig L ∧ top L ∧ val L = val l * 2 ^ n.toNat ∧ L.length ≤ 2000 := by
  have HR := Aside0.mk hr
  have HD := Aside0.mk hdl
  clear hr hdl
  have HB := Aside0.mk (Below.refl w.heap.size w)
  go_enter Try.func45, Try.ntmps45
  go_wp2_with (first | ((with_reducible refine gate_dst (N := 10) rfl ?_); refine Kd.R_make (Kd.int .i64) _ 3 rfl (N := 10) rfl 69 _ _ rfl (n / 16) ?hx1 ?hx2 Try.underlying69 (.int .i64 0) 8 info3 rfl (by decide) (by omega) 0 (ok := fun _ => True) (okp := fun _ => True) rfl (fun _ hk => hk) trivial (by omega) (by omega) (Below.refl _ _) (Nat.le_refl _) ?_; (case hx1 => first | rfl | (simp; done) | skip); (case hx2 => first | rfl | (simp; done) | skip); intro v0 w1 ho hb hg_ hnew_; clear hg_ hnew_; have HO := Aside0.mk ho; clear HB; have HB := Aside0.mk hb; clear ho hb))
  have HL := Aside0.mk (show (List.replicate (n / 16).toNat (0 : Int)).length ≤ 200 by simp; omega)
  have HV := Aside0.mk (fun (L : List Int) (v : Int) (h : val L = v * 2 ^ (n % 16).toNat) => shl_val hn0 L v h)
  have HZ := Aside0.mk (dig_zeros (n / 16).toNat)
  generalize List.replicate (n / 16).toNat (0 : Int) = Z at HO HL HV HZ
  go_loop [6, 7] (fun v6 v7 => ∃ (i : Nat) (p : Int), (i : Int) ≤ n % 16 ∧ 1 ≤ p ∧ p ≤ 32768 ∧ Aside0 (p = 2 ^ i) ∧ v6 = .int .i64 p ∧ v7 = .int .i64 i) (fun _ v7 => 16 - (intOf v7).toNat)
  case atStart => exact ⟨0, 1, by omega, by omega, by omega, ⟨rfl⟩, rfl, rfl⟩
  case round =>
    obtain ⟨i, p, hi, hp0, hp1, HP, rfl, rfl⟩ := hrel
    by_cases hlt : (i : Int) < n % 16
    · have HP2 := Aside0.mk (show 2 * p = 2 ^ (i + 1) by rw [Int.pow_succ, HP.out]; omega)
      have hb2 := two_bd (i := i + 1) (by omega)
      have HQ := Aside0.mk (show 1 ≤ 2 * p ∧ 2 * p ≤ 32768 by rw [HP2.out]; exact hb2)
      clear hb2
      go_wp2
      go_round
      case rel => exact ⟨i + 1, 2 * p, by omega, HQ.out.1, HQ.out.2, HP2, rfl, by first | rfl | go_num⟩
      case measure => (simp [intOf] <;> omega)
    · have HI := Aside0.mk (show (n % 16).toNat = i by omega)
      go_wp2_with fail
      refine (mul_calls A ⟨w1.heap.size, 0, none⟩ c 1 l p _ hl hp0 hp1 HD.out (Kd.C_alloc (Kd.C_below HR.out HB.out) _) (by go_simp)).mono ?_
      rintro e w2 ⟨v2, L2, rfl, ho2, hb2, hd2, ht2, hv2, hn2⟩
      have HO1 := Aside0.mk (Kd.R_below (Kd.R_alloc HO.out _) hb2)
      have HB1 := Aside0.mk (below_step (below_alloc HB.out _) hb2)
      have HO2 := Aside0.mk (Kd.R_lower ho2 (below_size (below_alloc HB.out _)))
      have HX := Aside0.mk (HV.out L2 (val l) (by rw [hv2, HP.out, HI.out]))
      have HD2 := Aside0.mk hd2
      have HN2 := Aside0.mk hn2
      clear HB HO hb2 ho2 hd2 ht2 hv2 hn2 HV HP HI
      have HO := HO1
      have HB := HB1
      clear HO1 HB1
      obtain ⟨A2, c2, rfl⟩ := Kd.R_slice HO2.out
      go_wp2_with (first | ((with_reducible refine gate_builtin (b := .append) (xs := #[.tmp 19, .tmp 23]) rfl ?_); at_builtin; refine Kd.R_append_rows (Kd.int .i64) (w0 := w) w.heap.size rfl (.tmp 19) (.tmp 23) 69 3 (.int .i64 0) 8 rfl Try.underlying69 info3 rfl (by decide) (by omega) v0 Z L2 _ _ _ (fun _ => True) (fun _ => False) rfl rfl ?aO ?aR (fun _ _ h => h) (fun _ h => h.elim) ?aF ?aB ?aS ?aL ?_; (case aR => exact (Kd.R_reads' HO2.out).2.2); (case aB => exact HB.out); (case aF => exact (fun _ _ => trivial)); (case aO => exact HO.out); (case aS => exact (below_size HB.out)); (case aL => have := HN2.out; have := HL.out; omega); intro v3 w3 ho hb hg hat; clear HB HO HO2 hg hat; have HB := Aside0.mk hb; have HO := Aside0.mk ho; clear ho hb; obtain ⟨A3, c3, e3⟩ := Kd.R_slice HO.out; subst e3))
      obtain ⟨_, hcap, hC⟩ := Kd.R_reads' HO.out
      have h := cut_calls A3 c3 (Z ++ L2) w3 (by rw [List.length_append]; have := HN2.out; have := HL.out; omega) hcap hC
      rw [List.length_append] at h
      refine h.mono ?_
      rintro e w4 ⟨rfl, rfl⟩
      have hcl := cut_le (Z ++ L2) (Z.length + L2.length)
      have hlen : (Z ++ L2).length = Z.length + L2.length := List.length_append
      have HO4 := Aside0.mk (Kd.R_take HO.out (m := cutFrom (Z ++ L2) (Z.length + L2.length)) (by rw [hlen]; exact hcl))
      have HE := Aside0.mk (show dig ((Z ++ L2).take (cutFrom (Z ++ L2) (Z.length + L2.length))) ∧ top ((Z ++ L2).take (cutFrom (Z ++ L2) (Z.length + L2.length))) ∧ val ((Z ++ L2).take (cutFrom (Z ++ L2) (Z.length + L2.length))) = val l * 2 ^ n.toNat ∧ ((Z ++ L2).take (cutFrom (Z ++ L2) (Z.length + L2.length))).length ≤ 2000 by
        refine ⟨dig_take (dig_append HZ.out HD2.out) _, cut_top _ _ (by rw [hlen]; exact Nat.le_refl _), ?_, ?_⟩
        · rw [cut_val _ _ (by rw [hlen]; exact Nat.le_refl _), ← hlen, List.take_of_length_le (Nat.le_refl _)]; exact HX.out
        · have := HN2.out; have := HL.out; rw [List.length_take, hlen]; omega)
      clear h hcap hC hcl hlen HO
      go_wp2
      go_ret
      exact ⟨_, _, rfl, HO4.out, HB.out, HE.out.1, HE.out.2.1, HE.out.2.2.1, HE.out.2.2.2⟩
end Go.Proofs.Ythmakmmfbdmdfaa.OwnNum
