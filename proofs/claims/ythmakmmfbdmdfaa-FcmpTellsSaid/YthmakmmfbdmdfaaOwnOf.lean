/- The references' naturals, walked: of one word. -/
import Derived.Test.YthmakmmfbdmdfaaOwnMul
set_option linter.unusedVariables false
set_option linter.unusedSimpArgs false
namespace Go.Proofs.Ythmakmmfbdmdfaa.OwnNum
open Go.RowKit Go.Proofs.Ythmakmmfbdmdfaa.PFcmpTells Go.Proofs.Ythmakmmfbdmdfaa.OwnDig Go.Proofs.YthmakmmfbdmdfaaW.PrintWords Go.Proofs.YthmakmmfbdmdfaaW.PrintLast Go.Proofs.YthmakmmfbdmdfaaW.PrintMore
attribute [local go_sem] max2_int min2_int max_two min_two max_three min_three max_four min_four

/-- digits that were taken off, and what is left -/
def Off (x : Int) (k : Nat) (L : List Int) (y : Int) : Prop := dig L ∧ L.length = k ∧ 0 ≤ y ∧ y < 18446744073709551616 ∧ val L + y * 65536 ^ k = x
theorem Off_start {x : Int} (h0 : 0 ≤ x) (h1 : x < 18446744073709551616) : Off x 0 [] x := ⟨fun y hy => by simp at hy, rfl, h0, h1, by simp [val]⟩
theorem Off_step {x y : Int} {k : Nat} {L : List Int} (h : Off x k L y) : Off x (k + 1) (L ++ [y % 65536]) (y / 65536) := by
  obtain ⟨hd, hn, h0, h1, hv⟩ := h
  refine ⟨dig_append hd (fun z hz => ?_), by simp [hn], by omega, by omega, ?_⟩
  · simp at hz; omega
  · rw [val_append, hn, Int.pow_succ]
    simp only [val]
    have e : y = 65536 * (y / 65536) + y % 65536 := by omega
    generalize y / 65536 = a at *
    generalize y % 65536 = b at *
    rw [← hv, e]
    grind
theorem Off_end {x y : Int} {L : List Int} (hx : x < 18446744073709551616) (h : Off x 4 L y) : dig L ∧ L.length = 4 ∧ val L = x := by
  obtain ⟨hd, hn, h0, h1, hv⟩ := h
  have := (val_bd hd).1
  refine ⟨hd, hn, ?_⟩
  rw [show (65536 : Int) ^ 4 = 18446744073709551616 by decide] at hv
  omega
theorem Off_range {x y : Int} {k : Nat} {L : List Int} (h : Off x k L y) : 0 ≤ y ∧ y < 18446744073709551616 := ⟨h.2.2.1, h.2.2.2.1⟩
theorem Off_len {x y : Int} {k : Nat} {L : List Int} (h : Off x k L y) : L.length = k := h.2.1

set_option maxHeartbeats 400000 in
set_option maxRecDepth 100000 in
theorem of_calls (ad : Addr) (d : Nat) (x : Int) (w : World) (hx0 : 0 ≤ x) (hx1 : x < 18446744073709551616) (hx : w.cell? ad = some (.int .u64 x)) :
    Calls Try.prog 67 #[.slice (some ad) 1 d] w fun e w' => ∃ v L, e = .returned v ∧ Kd.R (Kd.int .i64) 3 w' w.heap.size (fun _ => True) v L ∧ Below w.heap.size w w' ∧ dig L ∧ top L ∧ val L = x ∧ L.length ≤ 4 := by
  have HX := Aside0.mk hx
  have HX1 := Aside0.mk hx1
  clear hx
  have HB := Aside0.mk (Below.refl w.heap.size w)
  have HO := Aside0.mk (show Kd.R (Kd.int .i64) 3 w w.heap.size (fun _ => True) (.slice none 0 0) ([] : List Int) from Kd.R_nil ..)
  go_enter Try.func67, Try.ntmps67
  go_wp2
  go_loopw [3, 4] (fun v3 v4 wr => ∃ (i : Nat) (L : List Int), i ≤ 1 ∧ v4 = .int .i64 i ∧ Aside0 (i = 0 → L = []) ∧ Aside0 (i = 1 → dig L ∧ L.length = 4 ∧ val L = x) ∧ Aside0 (Kd.R (Kd.int .i64) 3 wr w.heap.size (fun _ => True) v3 L) ∧ Aside0 (Below w.heap.size w wr)) (fun _ v4 _ => 1 - (intOf v4).toNat)
  case atStart => exact ⟨0, [], by omega, rfl, ⟨fun _ => rfl⟩, ⟨fun h => by omega⟩, HO, HB⟩
  case round =>
    clear HO HB
    obtain ⟨i, L1, hi, rfl, H0, H1, HO, HB⟩ := hrel
    have hi2 : i = 0 ∨ i = 1 := by omega
    rcases hi2 with rfl | rfl
    · rw [show ((0 : Nat) : Int) = 0 from rfl]
      obtain rfl := H0.out rfl
      clear H0 H1
      obtain ⟨wo, rfl⟩ : ∃ wo : World, wo = wr := ⟨_, rfl⟩
      have hx := (HB.out.cell (World.block_lt_of_cell? w _ HX.out)).trans HX.out
      go_wp2
      have HF := Aside0.mk (Off_start hx0 hx1)
      clear hx
      go_loopw [3, 5, 6] (fun v3 v5 v6 wr => ∃ (k : Nat) (L : List Int) (y : Int), k ≤ 4 ∧ v6 = .int .i64 k ∧ v5 = .int .u64 y ∧ Aside0 (Off x k L y) ∧ Aside0 (Kd.R (Kd.int .i64) 3 wr w.heap.size (fun _ => True) v3 L) ∧ Aside0 (Below w.heap.size w wr)) (fun _ _ v6 _ => 4 - (intOf v6).toNat)
      case atStart => exact ⟨0, [], x, by omega, rfl, rfl, HF, HO, HB⟩
      case round =>
        clear HF HO HB
        obtain ⟨k, L, y, hk, rfl, rfl, HF, HO, HB⟩ := hrel
        obtain ⟨y0, y1⟩ := Off_range HF.out
        by_cases hlt : k < 4
        · have HF2 := Aside0.mk (Off_step HF.out)
          have HL := Aside0.mk (Off_len HF.out)
          have HE := Aside0.mk (show 0 ≤ y % 65536 ∧ y % 65536 < 65536 by omega)
          clear hx0 hx1
          go_wp2_with (first | ((with_reducible refine gate_builtin (b := .append) (xs := #[.tmp 21, .tmp 25]) rfl ?_); at_builtin; refine Kd.R_append (Kd.int .i64) (w0 := w) w.heap.size rfl (.tmp 21) (.tmp 25) 69 3 (.int .i64 0) 8 rfl Try.underlying69 info3 rfl (by decide) (by omega) u3 L (y % 65536) [.int .i64 (y % 65536)] (fun _ => True) (fun _ => False) rfl rfl ?aP (fun _ hk => hk.elim) ?aF ?aO ?aB ?aS ?aL ?_; (case aP => exact rfl); (case aB => exact (by repeat (first | (with_reducible first | exact HB.out | apply below_alloc | apply pw_below_drewN | apply below_drew1) | exact HB.out))); (case aF => exact (fun _ _ => trivial)); (case aO => exact (by (with_reducible repeat (first | apply Kd.R_alloc | apply Kd.R_drewN | apply Kd.R_drew)); exact HO.out)); (case aS => exact (below_size (by repeat (first | (with_reducible first | exact HB.out | apply below_alloc | apply pw_below_drewN | apply below_drew1) | exact HB.out)))); (case aL => have := HL.out; omega); intro v1 w6 ho hb hg hat; clear HB HO hg hat; have HB := Aside0.mk hb; have HO := Aside0.mk ho; clear ho hb))
          go_roundw
          case rel => exact ⟨k + 1, L ++ [y % 65536], y / 65536, by omega, by first | rfl | go_num, by first | rfl | (simp; done), HF2, HO, HB⟩
          case measure => (simp [intOf] <;> omega)
        · obtain rfl : k = 4 := by omega
          have H1 := Aside0.mk (Off_end HX1.out HF.out)
          rw [show ((4 : Nat) : Int) = 4 from rfl]
          clear HF
          go_wp2
          go_roundw
          case rel => exact ⟨1, L, by omega, by first | rfl | (simp; done), ⟨fun h => by omega⟩, ⟨fun _ => H1.out⟩, HO, HB⟩
          case measure => (simp [intOf] <;> omega)
    · rw [show ((1 : Nat) : Int) = 1 from rfl]
      obtain ⟨q1, q2, q3⟩ := H1.out rfl
      clear H0 H1
      obtain ⟨Ao, co, rfl⟩ := Kd.R_slice HO.out
      rw [q2]
      have HC : Aside0 (Calls Try.prog 65 #[.slice Ao 4 co] wr fun e w' => e = .returned (.slice Ao (cutFrom L1 L1.length) co) ∧ wr = w') := by
        obtain ⟨_, hcap, hC⟩ := Kd.R_reads' HO.out
        have h := cut_calls Ao co L1 wr (by omega) (by omega) hC
        rw [q2] at h
        exact ⟨by rw [q2]; exact h⟩
      have HV := Aside0.mk (show val (L1.take (cutFrom L1 L1.length)) = x by rw [cut_val L1 _ (Nat.le_refl _), List.take_of_length_le (Nat.le_refl _)]; exact q3)
      have HD1 := Aside0.mk (dig_take q1 (cutFrom L1 L1.length))
      have HT := Aside0.mk (cut_top L1 L1.length (Nat.le_refl _))
      have HN := Aside0.mk (show (L1.take (cutFrom L1 L1.length)).length ≤ 4 by rw [List.length_take]; omega)
      clear q1 q2 q3
      go_wp2_with (go_at_call 65; (with_reducible refine HC.out.mono ?_); rintro e w' ⟨rfl, rfl⟩)
      go_ret
      exact ⟨_, _, rfl, Kd.R_take HO.out (cut_le _ _), HB.out, HD1.out, HT.out, HV.out, HN.out⟩

set_option maxHeartbeats 400000 in
set_option maxRecDepth 100000 in
theorem word_calls (x : Int) (w : World) (hx0 : 0 ≤ x) (hx1 : x < 18446744073709551616) :
    Calls Try.prog 46 #[.int .u64 x] w fun e w' => ∃ v L, e = .returned v ∧ Kd.R (Kd.int .i64) 3 w' w.heap.size (fun _ => True) v L ∧ Below w.heap.size w w' ∧ dig L ∧ top L ∧ val L = x ∧ L.length ≤ 4 := by
  have H0 := Aside0.mk hx0
  have H1 := Aside0.mk hx1
  clear hx0 hx1
  go_enter Try.func46, Try.ntmps46
  go_wp2_with (go_at_call 67; (with_reducible refine (of_calls _ _ x _ H0.out H1.out ?hc).mono ?_); (case hc => go_simp); rintro e w' ⟨v, L, rfl, ho, hb, hd, ht, hv, hn⟩; have HO := Aside0.mk ho; have HB := Aside0.mk hb; have HD := Aside0.mk hd; have HT := Aside0.mk ht; have HV := Aside0.mk hv; have HN := Aside0.mk hn; clear ho hb hd ht hv hn)
  go_ret
  exact ⟨_, _, rfl, Kd.R_lower HO.out (by simp), below_step (below_alloc (Below.refl _ _) _) HB.out, HD.out, HT.out, HV.out, HN.out⟩
end Go.Proofs.Ythmakmmfbdmdfaa.OwnNum
