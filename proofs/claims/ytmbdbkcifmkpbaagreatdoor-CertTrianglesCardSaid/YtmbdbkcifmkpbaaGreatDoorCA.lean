/- Parts of the proof, joined: Naturals, walked: how many limbs count; a limb or 0. Naturals, walked: a copy; without zeros at the end. Naturals, walked: without zeros at the end; the sum. Naturals, walked: the sum. Naturals, walked: shifted up. Naturals, walked: shifted down. Naturals, walked: a row of a product. Naturals, walked: the product. Naturals, walked: the iterator behind slices.Backward. Naturals, walked: which one is greater. Naturals, walked: how far they are from each other. Naturals, walked: whether there are any bits; a whole number's sign. Naturals, walked: zeros at the lower end. Under: the table of math/b -/
import Derived.Test.YtmbdbkcifmkpbaaGreatDoorCO
import Derived.Lib.SliceRun
import Derived.Shelf.Spec.BitsCarry
import Derived.Laws.Bits64
import Derived.StillTailTactics
import Derived.Deep.RegionHeld3
import Derived.Shelf.Spec.TrailingZeros
import Derived.Lib.Tables
import Derived.Laws.Bits64b
import Derived.Lib.TrailingZeros
section
set_option linter.unusedVariables false
set_option linter.unusedSimpArgs false
namespace Go.Proofs.YtmbdbkcifmkpbaaGreatDoor.OwnA
open Go.RowKit Go.Proofs.YtmbdbkcifmkpbaaGreatDoorW.PrintWords Go.Proofs.YtmbdbkcifmkpbaaGreatDoorW.PrintLast Go.Proofs.YtmbdbkcifmkpbaaGreatDoorW.PrintMore
attribute [local go_sem] max2_int min2_int max_two min_two max_three min_three max_four min_four

/-- the limbs that count, of the first `n` -/
def sizeF (l : List Int) : Nat → Nat
  | 0 => 0
  | n + 1 => if rd l n = 0 then sizeF l n else n + 1
theorem sizeF_le (l : List Int) : ∀ n, sizeF l n ≤ n
  | 0 => Nat.le_refl _
  | n + 1 => by
    have := sizeF_le l n
    simp only [sizeF]
    split <;> omega

set_option maxHeartbeats 400000 in
set_option maxRecDepth 100000 in
theorem size_calls (A : Option Addr) (c : Nat) (l : List Int) (w : World) (hc : l.length ≤ c) (hr : Kd.C (Kd.int .u64) w A l.length l) :
    Calls Tryz.prog 119 #[.slice A l.length c] w fun e w' => e = .returned (.int .i64 (sizeF l l.length)) ∧ w = w' := by
  have hlb : l.length ≤ 9223372036854775807 := hr.2.1
  have HR := Aside0.mk hr
  clear hr
  go_enter Tryz.func119, Tryz.ntmps119
  go_wp2
  go_loop [3] (fun v => ∃ n : Nat, n ≤ l.length ∧ v = .int .i64 n ∧ Aside0 (sizeF l n = sizeF l l.length)) (fun v => (intOf v).toNat)
  case atStart => exact ⟨l.length, Nat.le_refl _, rfl, ⟨rfl⟩⟩
  case round =>
    obtain ⟨n, hn, rfl, HE⟩ := hrel
    cases n with
    | zero =>
      go_wp2
      go_ret
      exact ⟨by rw [← HE.out]; rfl, rfl⟩
    | succ m =>
      obtain ⟨ad, rfl, hx⟩ := Kd.at_int HR.out (m : Int) (by omega) (by omega)
      rw [Int.toNat_natCast] at hx
      by_cases hz : rd l m = 0
      · have HE2 := Aside0.mk (show sizeF l m = sizeF l l.length by rw [← HE.out]; simp [sizeF, hz])
        have hzb : (rd l m == 0) = true := by simpa using hz
        clear hz
        go_wp2
        go_round
        case rel => exact ⟨m, by omega, by go_num, HE2⟩
        case measure => (simp [intOf] <;> omega)
      · have HE2 := Aside0.mk (show m + 1 = sizeF l l.length by rw [← HE.out]; simp [sizeF, hz])
        have hzb : (rd l m == 0) = false := by simpa using hz
        clear hz
        go_wp2
        go_ret
        exact ⟨by rw [← HE2.out] <;> first | rfl | (simp; done), rfl⟩

/-- a limb, or 0 -/
def atF (l : List Int) (i : Nat) : Int := if i < l.length then rd l i else 0
set_option maxHeartbeats 400000 in
set_option maxRecDepth 100000 in
theorem at_calls (A : Option Addr) (c : Nat) (l : List Int) (i : Nat) (w : World) (hc : l.length ≤ c) (hr : Kd.C (Kd.int .u64) w A l.length l) (hi : (i : Int) ≤ 9223372036854775807) :
    Calls Tryz.prog 125 #[.slice A l.length c, .int .i64 i] w fun e w' => e = .returned (.int .u64 (atF l i)) ∧ w' = w := by
  have hlb : l.length ≤ 9223372036854775807 := hr.2.1
  have HR := Aside0.mk hr
  clear hr
  by_cases h : i < l.length
  · have b1 : decide (i < l.length) = true := decide_eq_true h
    have b2 : decide ((i : Int) < l.length) = true := decide_eq_true (by omega)
    obtain ⟨ad, rfl, hx⟩ := Kd.at_int HR.out (i : Int) (by omega) (by omega)
    rw [Int.toNat_natCast] at hx
    have he : atF l i = rd l i := by unfold atF; rw [if_pos h]
    rw [he]
    go_enter Tryz.func125, Tryz.ntmps125
    go_wp2
    go_ret
    exact ⟨rfl, rfl⟩
  · have b1 : decide (i < l.length) = false := decide_eq_false h
    have b2 : decide ((i : Int) < l.length) = false := decide_eq_false (by omega)
    have he : atF l i = 0 := by unfold atF; rw [if_neg h]
    rw [he]
    go_enter Tryz.func125, Tryz.ntmps125
    go_wp2
    go_ret
    exact ⟨rfl, rfl⟩
end Go.Proofs.YtmbdbkcifmkpbaaGreatDoor.OwnA
end
section
set_option linter.unusedVariables false
set_option linter.unusedSimpArgs false
namespace Go.Proofs.YtmbdbkcifmkpbaaGreatDoor.OwnA
open Go.RowKit Go.Proofs.YtmbdbkcifmkpbaaGreatDoorW.PrintWords Go.Proofs.YtmbdbkcifmkpbaaGreatDoorW.PrintLast Go.Proofs.YtmbdbkcifmkpbaaGreatDoorW.PrintMore
attribute [local go_sem] max2_int min2_int max_two min_two max_three min_three max_four min_four

theorem R_empty (w : World) : Kd.R (Kd.int .u64) 58 (w.alloc (.cells #[] 58)) w.heap.size (fun _ => True) (.slice (some ⟨w.heap.size, 0, none⟩) 0 0) [] := by
  refine ⟨fun _ _ => trivial, [], ?_, Reps.none _ _⟩
  exact World.ownsRow_made w #[] 0 (Nat.le_refl _) (Nat.zero_le _) rfl
set_option maxHeartbeats 400000 in
set_option maxRecDepth 100000 in
theorem clone_calls (A : Option Addr) (c : Nat) (l : List Int) (w : World) (hl : l.length ≤ 1000000) (hc : l.length ≤ c) (hr : Kd.C (Kd.int .u64) w A l.length l) :
    Calls Tryz.prog 77 #[.slice A l.length c] w fun e w' => ∃ v, e = .returned v ∧ Kd.R (Kd.int .u64) 58 w' w.heap.size (fun _ => True) v l ∧ Below w.heap.size w w' := by
  have HR := Aside0.mk hr
  have HB := Aside0.mk (Below.refl w.heap.size w)
  clear hr
  have q22 : ∀ (w : World) (a : Option Addr) (n c n' c' : Nat), (binOp .eql 22 (.slice a n c) (.slice none n' c')).run Tryz.prog w = .ok (.bool a.isNone) w := fun w a n c n' c' => Lib.run_eql_slice_nil w _ _ a n c n' c' Tryz.underlying22
  cases A with
  | none =>
    obtain rfl : l = [] := by
      cases l with
      | nil => rfl
      | cons x l =>
        obtain ⟨ad, h, _⟩ := HR.out.2.2 (by simp)
        cases h
    go_enter Tryz.func77, Tryz.ntmps77
    go_wp2
    go_ret
    exact ⟨_, rfl, Kd.R_nil .., HB.out⟩
  | some ad =>
    go_enter Tryz.func77, Tryz.ntmps77
    have HO := Aside0.mk (R_empty w)
    have HB1 := Aside0.mk (below_alloc HB.out (.cells #[] 58))
    clear HB
    have HB := HB1
    clear HB1
    go_wp2_with ((with_reducible refine gate_builtin (b := .append) (xs := #[.tmp 5, .tmp 6]) rfl ?_); at_builtin; refine Kd.R_append_rows (Kd.int .u64) (w0 := w) w.heap.size rfl (.tmp 5) (.tmp 6) 22 58 (.int .u64 0) 8 rfl Tryz.underlying22 info58 rfl (by decide) (by omega) (.slice (some ⟨w.heap.size, 0, none⟩) 0 0) [] l _ _ _ (fun _ => True) (fun _ => False) rfl rfl ?aO ?aR (fun _ _ h => h) (fun _ h => h.elim) ?aF ?aB ?aS ?aL ?_; (case aR => exact (Kd.C_below HR.out HB.out)); (case aB => exact HB.out); (case aF => exact (fun _ _ => trivial)); (case aO => exact HO.out); (case aS => exact (below_size HB.out)); (case aL => simp; omega); intro v3 w3 ho hb hg hat; clear HB HO hg hat; have HB := Aside0.mk hb; have HO := Aside0.mk ho; clear ho hb)
    go_ret
    exact ⟨_, rfl, HO.out, HB.out⟩
end Go.Proofs.YtmbdbkcifmkpbaaGreatDoor.OwnA
end
section
set_option linter.unusedVariables false
set_option linter.unusedSimpArgs false
namespace Go.Proofs.YtmbdbkcifmkpbaaGreatDoor.OwnA
open Go.RowKit Go.Proofs.YtmbdbkcifmkpbaaGreatDoorW.PrintWords Go.Proofs.YtmbdbkcifmkpbaaGreatDoorW.PrintLast Go.Proofs.YtmbdbkcifmkpbaaGreatDoorW.PrintMore
attribute [local go_sem] max2_int min2_int max_two min_two max_three min_three max_four min_four

def normF (l : List Int) : List Int := l.take (sizeF l l.length)

set_option maxHeartbeats 400000 in
set_option maxRecDepth 100000 in
theorem norm_calls (A : Option Addr) (c : Nat) (l : List Int) (w : World) (hl : l.length ≤ 1000000) (hc : l.length ≤ c) (hr : Kd.C (Kd.int .u64) w A l.length l) :
    Calls Tryz.prog 109 #[.slice A l.length c] w fun e w' => ∃ v, e = .returned v ∧ Kd.R (Kd.int .u64) 58 w' w.heap.size (fun _ => True) v (normF l) ∧ Below w.heap.size w w' := by
  have hlb : l.length ≤ 9223372036854775807 := hr.2.1
  have HR := Aside0.mk hr
  clear hr
  obtain ⟨i0, hi0, _, hsz0, _⟩ := info_parts info58
  have HI0 := Aside0.mk hi0
  clear hi0 hsz0
  go_enter Tryz.func109, Tryz.ntmps109
  go_wp2
  go_loop [3] (fun v => ∃ n : Nat, n ≤ l.length ∧ v = .int .i64 n ∧ Aside0 (sizeF l n = sizeF l l.length)) (fun v => (intOf v).toNat)
  case atStart => exact ⟨l.length, Nat.le_refl _, rfl, ⟨rfl⟩⟩
  case round =>
    obtain ⟨n, hn, rfl, HE⟩ := hrel
    cases n with
    | zero =>
      have hcut := cut_to (P := Tryz.prog) 22 58 .i64 Tryz.underlying22 HI0.out A l.length c (0 : Int) (by omega) (by omega) hc
      rw [show (0 : Int).toNat = 0 from rfl] at hcut
      have HT := Aside0.mk (Kd.C_take (m := 0) HR.out (by omega))
      have HNF := Aside0.mk (show normF l = l.take 0 by unfold normF; rw [← HE.out]; rfl)
      go_wp2_with fail
      have h := clone_calls A c (l.take 0) w (by simp) (by simp) HT.out
      rw [show (l.take 0).length = 0 by simp] at h
      refine h.mono ?_
      rintro e w1 ⟨v, rfl, hR, hB⟩
      have HO := Aside0.mk hR
      have HB := Aside0.mk hB
      clear hR hB h
      go_wp2
      go_ret
      exact ⟨_, rfl, by rw [HNF.out]; exact HO.out, HB.out⟩
    | succ m =>
      obtain ⟨ad, rfl, hx⟩ := Kd.at_int HR.out (m : Int) (by omega) (by omega)
      rw [Int.toNat_natCast] at hx
      by_cases hz : rd l m = 0
      · have HE2 := Aside0.mk (show sizeF l m = sizeF l l.length by rw [← HE.out]; simp [sizeF, hz])
        have hzb : (rd l m == 0) = true := by simpa using hz
        clear hz
        go_wp2
        go_round
        case rel => exact ⟨m, by omega, by go_num, HE2⟩
        case measure => (simp [intOf] <;> omega)
      · have HE2 := Aside0.mk (show m + 1 = sizeF l l.length by rw [← HE.out]; simp [sizeF, hz])
        have hzb : (rd l m == 0) = false := by simpa using hz
        have hcut := cut_to (P := Tryz.prog) 22 58 .i64 Tryz.underlying22 HI0.out (some ad) l.length c ((m : Int) + 1) (by omega) (by omega) hc
        rw [show ((m : Int) + 1).toNat = m + 1 by omega] at hcut
        have HT := Aside0.mk (Kd.C_take (m := m + 1) HR.out (by omega))
        have HNF := Aside0.mk (show normF l = l.take (m + 1) by unfold normF; rw [← HE2.out])
        have HTL := Aside0.mk (show (l.take (m + 1)).length = m + 1 by rw [List.length_take]; omega)
        clear hz
        go_wp2_with fail
        have h := clone_calls (some ad) c (l.take (m + 1)) w (by rw [HTL.out]; omega) (by rw [HTL.out]; omega) HT.out
        rw [HTL.out] at h
        refine h.mono ?_
        rintro e w1 ⟨v, rfl, hR, hB⟩
        have HO := Aside0.mk hR
        have HB := Aside0.mk hB
        clear hR hB h
        go_wp2
        go_ret
        exact ⟨_, rfl, by rw [HNF.out]; exact HO.out, HB.out⟩

/-- the model's bits.Add64, at this dump -/
theorem add64 {x y c : Int} (x0 : 0 ≤ x) (y0 : 0 ≤ y) (c0 : 0 ≤ c) (c1 : c ≤ 1) (w : World) :
    (callFunc 124 #[.int .u64 x, .int .u64 y, .int .u64 c]).run Tryz.prog w = .ok (.value (.tuple #[.int .u64 ((x + y + c) % 18446744073709551616), .int .u64 ((x + y + c) / 18446744073709551616)])) w := by
  obtain ⟨x, rfl⟩ := Int.eq_ofNat_of_zero_le x0
  obtain ⟨y, rfl⟩ := Int.eq_ofNat_of_zero_le y0
  obtain ⟨c, rfl⟩ := Int.eq_ofNat_of_zero_le c0
  rw [run_callFunc_extern Tryz.func124 (by kernel_rfl) (by kernel_rfl) (by kernel_rfl) (e := add64Entry) (by kernel_rfl), run_add64 x y c (by omega) (by omega) (by omega) (by omega)]
  simp only [Result.andThen]
theorem sub64 {x y b : Int} (x0 : 0 ≤ x) (y0 : 0 ≤ y) (b0 : 0 ≤ b) (b1 : b ≤ 1) (y1 : y < 18446744073709551616) (w : World) :
    (callFunc 127 #[.int .u64 x, .int .u64 y, .int .u64 b]).run Tryz.prog w = .ok (.value (.tuple #[.int .u64 ((x - y - b) % 18446744073709551616), .int .u64 (if x < y + b then 1 else 0)])) w := by
  obtain ⟨x, rfl⟩ := Int.eq_ofNat_of_zero_le x0
  obtain ⟨y, rfl⟩ := Int.eq_ofNat_of_zero_le y0
  obtain ⟨b, rfl⟩ := Int.eq_ofNat_of_zero_le b0
  rw [run_callFunc_extern Tryz.func127 (by kernel_rfl) (by kernel_rfl) (by kernel_rfl) (e := sub64Entry) (by kernel_rfl), run_sub64 x y b (by omega)]
  simp only [Result.andThen]
  have e1 : (((x + 18446744073709551616 - y - b) % 18446744073709551616 : Nat) : Int) = ((x : Int) - y - b) % 18446744073709551616 := by omega
  have e2 : ((if x < y + b then 1 else 0 : Nat) : Int) = if (x : Int) < y + b then 1 else 0 := by
    by_cases h : x < y + b
    · rw [if_pos h, if_pos (by omega)]; rfl
    · rw [if_neg h, if_neg (by omega)]; rfl
  rw [e1, e2]
end Go.Proofs.YtmbdbkcifmkpbaaGreatDoor.OwnA
end
section
set_option linter.unusedVariables false
set_option linter.unusedSimpArgs false
namespace Go.Proofs.YtmbdbkcifmkpbaaGreatDoor.OwnA
open Go.RowKit Go.Proofs.YtmbdbkcifmkpbaaGreatDoorW.PrintWords Go.Proofs.YtmbdbkcifmkpbaaGreatDoorW.PrintLast Go.Proofs.YtmbdbkcifmkpbaaGreatDoorW.PrintMore
theorem max2_mx (k k' : IntKind) (x y : Int) : Builtin.max2 (.int k x) (.int k' y) = pure (.int k (mx x y)) := by simp only [Builtin.max2, gt_iff_lt, mx]
attribute [local go_sem] max2_mx min2_int max_two min_two max_three min_three max_four min_four

/-- sums of limbs from `i` on, with a carry -/
def addL (a b : List Int) : Nat → Nat → Int → List Int
  | _, 0, _ => []
  | i, n + 1, c => ((atF a i + atF b i + c) % 18446744073709551616) :: addL a b (i + 1) n ((atF a i + atF b i + c) / 18446744073709551616)
def addF (a b : List Int) : List Int := normF (addL a b 0 (max a.length b.length + 1) 0)
theorem addL_len (a b : List Int) : ∀ (n i : Nat) (c : Int), (addL a b i n c).length = n
  | 0, _, _ => rfl
  | n + 1, i, c => by rw [addL, List.length_cons, addL_len a b n]
theorem atF_bd {l : List Int} (h : u64s l) (i : Nat) : 0 ≤ atF l i ∧ atF l i < 18446744073709551616 := by
  unfold atF
  split
  · exact u64s_rd h i
  · omega
theorem set_take {L : List Int} {i : Nat} (h : i < L.length) (v : Int) : (L.set i v).take (i + 1) = L.take i ++ [v] := by
  rw [List.take_succ_eq_append_getElem (by rw [List.length_set]; exact h), List.take_set_of_le (Nat.le_refl _), List.getElem_set_self]

set_option maxHeartbeats 800000 in
set_option maxRecDepth 100000 in
theorem add_calls (A B : Option Addr) (c d : Nat) (a b : List Int) (w : World) (hla : a.length ≤ 100000) (hlb : b.length ≤ 100000) (hc : a.length ≤ c) (hd : b.length ≤ d) (hua : u64s a) (hub : u64s b)
    (ha : Kd.C (Kd.int .u64) w A a.length a) (hb : Kd.C (Kd.int .u64) w B b.length b) :
    Calls Tryz.prog 107 #[.slice A a.length c, .slice B b.length d] w fun e w' => ∃ v, e = .returned v ∧ Kd.R (Kd.int .u64) 58 w' w.heap.size (fun _ => True) v (addF a b) ∧ Below w.heap.size w w' := by
  have HRA := Aside0.mk ha
  have HRB := Aside0.mk hb
  have HUA := Aside0.mk hua
  have HUB := Aside0.mk hub
  clear ha hb hua hub
  obtain ⟨i0, hi0, _, hsz0, _⟩ := info_parts info58
  have HI0 := Aside0.mk hi0
  clear hi0 hsz0
  obtain ⟨m, hm⟩ : ∃ m : Nat, m = max a.length b.length := ⟨_, rfl⟩
  have hm1 : m ≤ 100000 := by omega
  have hmx : mx (a.length : Int) (b.length : Int) = (m : Int) := by unfold mx; split <;> omega
  have HM := Aside0.mk hm
  clear hm
  have HB := Aside0.mk (Below.refl w.heap.size w)
  go_enter Tryz.func107, Tryz.ntmps107
  go_wp2_with (first | ((with_reducible refine gate_dst (N := 14) rfl ?_); refine Kd.R_make (Kd.int .u64) _ 58 rfl (N := 14) rfl 22 _ _ rfl ((m : Int) + 1) ?hx1 ?hx2 Tryz.underlying22 (.int .u64 0) 8 info58 rfl (by decide) (by omega) 0 (ok := fun _ => True) (okp := fun _ => True) rfl (fun _ hk => hk) trivial (by omega) (by omega) (Below.refl _ _) (Nat.le_refl _) ?_; (case hx1 => first | rfl | (simp; done) | skip); (case hx2 => first | rfl | (simp; done) | skip); intro v0 w1 ho hb hg_ hnew_; rw [show ((m : Int) + 1).toNat = m + 1 by omega] at ho; clear hg_ hnew_; obtain ⟨g, cap, rfl, hg, _, _⟩ := Kd.R_form ho (by simp); have hn2 : (List.replicate (m + 1) (0 : Int)).length = m + 1 := (by simp); (try rw [hn2] at ho); (try rw [hn2]); have HO := Aside0.mk ho; clear HB; have HB := Aside0.mk hb; have HG := Aside0.mk hg; have HL0 := Aside0.mk hn2; clear ho hb hn2 hg))
  have HS0 := Aside0.mk (show (List.replicate (m + 1) (0 : Int)).take 0 ++ addL a b 0 (m + 1) 0 = addL a b 0 (m + 1) 0 from rfl)
  generalize List.replicate (m + 1) (0 : Int) = L0 at HO HS0 HL0
  go_loopw [6, 7, 17] (fun v6 v7 v17 wr => ∃ (i : Nat) (cc : Int) (L : List Int), i ≤ m + 1 ∧ 0 ≤ cc ∧ cc ≤ 1 ∧ v6 = .int .u64 cc ∧ v17 = .int .i64 i ∧ Aside0 (L.length = m + 1) ∧ Aside0 (L.take i ++ addL a b i (m + 1 - i) cc = addL a b 0 (m + 1) 0) ∧ Aside0 (Kd.R (Kd.int .u64) 58 wr w.heap.size (fun _ => True) (.slice (some ⟨g, 0, none⟩) (m + 1) cap) L) ∧ Aside0 (Below w.heap.size w wr)) (fun _ _ v17 _ => m + 1 - (intOf v17).toNat)
  case atStart => exact ⟨0, 0, L0, Nat.zero_le _, by omega, by omega, rfl, rfl, HL0, HS0, HO, HB⟩
  case round =>
    clear HS0 HO HB HL0
    obtain ⟨i, cc, L, hi, c0, c1, rfl, rfl, HL, HS, HO, HB⟩ := hrel
    by_cases hlt : i < m + 1
    · have b1 : decide (i < m + 1) = true := decide_eq_true hlt
      have b2 : decide ((i : Int) < ((m + 1 : Nat) : Int)) = true := decide_eq_true (by omega)
      have b3 : decide ((i : Int) < (m : Int) + 1) = true := decide_eq_true (by omega)
      have HCA := Aside0.mk (at_calls A c a i wr hc (Kd.C_below HRA.out HB.out) (by omega))
      have HCB := Aside0.mk (at_calls B d b i wr hd (Kd.C_below HRB.out HB.out) (by omega))
      obtain ⟨x0, x1⟩ := atF_bd HUA.out i
      obtain ⟨y0, y1⟩ := atF_bd HUB.out i
      have HE := Aside0.mk (show L.take i ++ ((atF a i + atF b i + cc) % 18446744073709551616 :: addL a b (i + 1) (m - i) ((atF a i + atF b i + cc) / 18446744073709551616)) = addL a b 0 (m + 1) 0 by
        have h := HS.out
        rw [show m + 1 - i = (m - i) + 1 by omega, addL] at h
        exact h)
      generalize atF a i = x at *
      generalize atF b i = y at *
      obtain ⟨hz, hf⟩ := Kd.R_celln 0 HO.out (i : Int) (by omega) (by omega)
      replace hz : wr.cell? ⟨g, i, none⟩ = some (.int .u64 (rd L i)) := hz
      replace hf : wr.frozen? ⟨g, i, none⟩ = false := hf
      have hadd := add64 x0 y0 c0 c1
      go_wp2_with (first | (go_at_call 125; (first | (with_reducible refine HCA.out.mono ?_) | (with_reducible refine HCB.out.mono ?_)); rintro e w' ⟨rfl, rfl⟩))
      go_roundw
      case rel => exact ⟨i + 1, (x + y + cc) / 18446744073709551616, L.set i ((x + y + cc) % 18446744073709551616), by omega, by omega, by omega, rfl, by first | rfl | go_num, ⟨by rw [List.length_set]; exact HL.out⟩, ⟨by rw [set_take (by rw [HL.out]; exact hlt), List.append_assoc, List.singleton_append, show m + 1 - (i + 1) = m - i by omega]; exact HE.out⟩, ⟨by first | exact (Kd.R_putg HO.out (i : Int) _).1 | exact (Kd.R_putg (Kd.R_drewN HO.out _) (i : Int) _).1⟩, ⟨below_set (by repeat (first | (with_reducible first | exact HB.out | apply below_alloc | apply pw_below_drewN | apply below_drew1) | exact HB.out)) HG.out⟩⟩
      case measure => (simp [intOf] <;> omega)
    · obtain rfl : i = m + 1 := by omega
      have b1 : decide (m + 1 < m + 1) = false := by simp
      have b2 : decide (((m + 1 : Nat) : Int) < ((m + 1 : Nat) : Int)) = false := by simp
      have hLS : L = addL a b 0 (m + 1) 0 := by
        have h := HS.out
        rw [Nat.sub_self, addL, List.append_nil, List.take_of_length_le (by rw [HL.out]; exact Nat.le_refl _)] at h
        exact h
      obtain ⟨hx_, hcap, hC⟩ := Kd.R_reads' HO.out
      clear hx_
      have hsz := size_calls (some ⟨g, 0, none⟩) cap L wr (by rw [HL.out]; exact hcap) hC
      have hsl := sizeF_le L L.length
      rw [HL.out] at hsz hsl
      have hcut := cut_to (P := Tryz.prog) 22 58 .i64 Tryz.underlying22 HI0.out (some ⟨g, 0, none⟩) (m + 1) cap ((sizeF L (m + 1) : Nat) : Int) (by omega) (by omega) hcap
      rw [Int.toNat_natCast] at hcut
      have HSZ := Aside0.mk hsz
      have HR := Aside0.mk (show Kd.R (Kd.int .u64) 58 wr w.heap.size (fun _ => True) (.slice (some ⟨g, 0, none⟩) (sizeF L (m + 1)) cap) (addF a b) by
        have h := Kd.R_take HO.out (m := sizeF L (m + 1)) (by rw [HL.out]; exact hsl)
        have e : addF a b = L.take (sizeF L (m + 1)) := by
          unfold addF normF
          rw [← HM.out, ← hLS, HL.out]
        rw [e]
        exact h)
      clear hC hsz hcap hLS
      go_wp2_with (first | (go_at_call 119; (with_reducible refine HSZ.out.mono ?_); rintro e w' ⟨rfl, rfl⟩))
      go_ret
      exact ⟨_, rfl, HR.out, HB.out⟩
end Go.Proofs.YtmbdbkcifmkpbaaGreatDoor.OwnA
end
section
set_option linter.unusedVariables false
set_option linter.unusedSimpArgs false
namespace Go.Proofs.YtmbdbkcifmkpbaaGreatDoor.OwnA
open Go.RowKit Go.Proofs.YtmbdbkcifmkpbaaGreatDoorW.PrintWords Go.Proofs.YtmbdbkcifmkpbaaGreatDoorW.PrintLast Go.Proofs.YtmbdbkcifmkpbaaGreatDoorW.PrintMore
attribute [local go_sem] max2_mx min2_int max_two min_two max_three min_three max_four min_four

/-- a limb shifted up, with what came from the one below; what goes into the next -/
def shlW (x : Int) (s : Nat) (c : Int) : Int := bits BinOp.or IntKind.u64 (IntKind.u64.wrap (x * 2 ^ s)) c
def shlC (x : Int) (s : Nat) : Int := x / 2 / 2 ^ (63 - s)
def shlL (s : Nat) : List Int → Int → List Int
  | [], c => [c]
  | x :: l, c => shlW x s c :: shlL s l (shlC x s)
def shlF (l : List Int) (n : Int) : List Int := normF (List.replicate (n / 64).toNat 0 ++ shlL (n % 64).toNat l 0)
theorem bits_u64 (o : BinOp) (a b : Int) : 0 ≤ bits o .u64 a b ∧ bits o .u64 a b < 18446744073709551616 := by
  unfold bits
  split <;> (simp only [IntKind.wrap_u64]; omega)
theorem shlC_bd {x : Int} (s : Nat) (x0 : 0 ≤ x) (x1 : x < 18446744073709551616) : 0 ≤ shlC x s ∧ shlC x s < 18446744073709551616 := by
  unfold shlC
  have hp : (0 : Int) < 2 ^ (63 - s) := Int.pow_pos (by omega)
  refine ⟨Int.ediv_nonneg (by omega) (by omega), ?_⟩
  have h := Int.ediv_le_self (2 ^ (63 - s)) (show 0 ≤ x / 2 by omega)
  omega
theorem shlL_len (s : Nat) : ∀ (l : List Int) (c : Int), (shlL s l c).length = l.length + 1
  | [], _ => rfl
  | x :: l, c => by rw [shlL, List.length_cons, shlL_len s l, List.length_cons]

set_option maxHeartbeats 800000 in
set_option maxRecDepth 100000 in
theorem shl_calls (A : Option Addr) (c : Nat) (l : List Int) (n : Int) (w : World) (hl : l.length ≤ 100000) (hc : l.length ≤ c) (h0 : 0 ≤ n) (h1 : n ≤ 65536) (hu : u64s l)
    (hr : Kd.C (Kd.int .u64) w A l.length l) :
    Calls Tryz.prog 111 #[.slice A l.length c, .int .i64 n] w fun e w' => ∃ v, e = .returned v ∧ Kd.R (Kd.int .u64) 58 w' w.heap.size (fun _ => True) v (shlF l n) ∧ Below w.heap.size w w' := by
  have HR := Aside0.mk hr
  have HU := Aside0.mk hu
  clear hr hu
  obtain ⟨q, hq⟩ : ∃ q : Nat, n / 64 = (q : Int) := ⟨(n / 64).toNat, by omega⟩
  obtain ⟨s, hs⟩ : ∃ s : Nat, n % 64 = (s : Int) := ⟨(n % 64).toNat, by omega⟩
  have hq1 : q ≤ 1024 := by omega
  have hs1 : s < 64 := by omega
  have HB := Aside0.mk (Below.refl w.heap.size w)
  go_enter Tryz.func111, Tryz.ntmps111
  go_wp2_with (first | ((with_reducible refine gate_dst (N := 18) rfl ?_); refine R_make2 (Kd.int .u64) _ 58 rfl (N := 18) rfl 22 _ _ rfl (q : Int) ((q : Int) + l.length + 1) ?hx1 ?hx2 Tryz.underlying22 (.int .u64 0) 8 info58 rfl (by decide) (by omega) 0 (ok := fun _ => True) (okp := fun _ => True) rfl (fun _ hk => hk) trivial (by omega) (by omega) (by omega) (Below.refl _ _) (Nat.le_refl _) ?_; (case hx1 => first | rfl | (simp; done) | (simp [hq]; done) | (go_simp; done)); (case hx2 => first | rfl | (simp; done) | (simp [hq]; done) | (go_simp; done)); intro v0 w1 ho hb; rw [Int.toNat_natCast] at ho; obtain ⟨A1, c1, e1⟩ := Kd.R_slice ho; subst e1; rw [List.length_replicate] at ho ⊢; have HO := Aside0.mk ho; clear HB; have HB := Aside0.mk hb; clear ho hb))
  have HS0 := Aside0.mk (show List.replicate q (0 : Int) ++ shlL s (l.drop 0) 0 = List.replicate q (0 : Int) ++ shlL s l 0 from rfl)
  have HF := Aside0.mk (show shlF l n = normF (List.replicate q (0 : Int) ++ shlL s l 0) by unfold shlF; rw [hq, hs, Int.toNat_natCast, Int.toNat_natCast])
  simp only [hq, hs]
  clear hq hs
  have HZL := Aside0.mk (show (List.replicate q (0 : Int)).length = q by simp)
  generalize List.replicate q (0 : Int) ++ shlL s l 0 = G at HS0 HF
  generalize List.replicate q (0 : Int) = Z0 at HO HS0 HZL
  obtain ⟨v0, hv0⟩ : ∃ v : Value, Value.slice A1 q c1 = v := ⟨_, rfl⟩
  rw [hv0] at HO ⊢
  clear hv0
  go_loopw [5, 7, 9, 24] (fun v5 v7 v9 v24 wr => ∃ (i : Nat) (cc : Int) (Z : List Int), i ≤ l.length ∧ 0 ≤ cc ∧ cc < 18446744073709551616 ∧ v7 = .int .u64 cc ∧ v24 = .int .i64 i ∧ Aside0 (Z.length = q + i) ∧ Aside0 (Z ++ shlL s (l.drop i) cc = G) ∧ Aside0 (Kd.R (Kd.int .u64) 58 wr w.heap.size (fun _ => True) v5 Z) ∧ Aside0 (Below w.heap.size w wr)) (fun _ _ _ v24 _ => l.length - (intOf v24).toNat)
  case atStart => exact ⟨0, 0, Z0, Nat.zero_le _, by omega, by omega, rfl, rfl, ⟨by rw [HZL.out]; rfl⟩, HS0, HO, HB⟩
  case round =>
    clear HS0 HO HB HZL
    obtain ⟨i, cc, Z, hi, cc0, cc1, rfl, rfl, HZ, HS, HO, HB⟩ := hrel
    by_cases hlt : i < l.length
    · have b1 : decide (i < l.length) = true := decide_eq_true hlt
      have b2 : decide ((i : Int) < l.length) = true := decide_eq_true (by omega)
      obtain ⟨ad, rfl, hx⟩ := Kd.at_int (Kd.C_below HR.out HB.out) (i : Int) (by omega) (by omega)
      rw [Int.toNat_natCast] at hx
      obtain ⟨x0, x1⟩ := u64s_rd HU.out i
      have HE := Aside0.mk (show Z ++ (shlW (rd l i) s cc :: shlL s (l.drop (i + 1)) (shlC (rd l i) s)) = G by
        have h := HS.out
        rw [List.drop_eq_getElem_cons hlt, shlL] at h
        have e : rd l i = l[i] := by unfold rd; rw [Int.toNat_natCast, List.getD_eq_getElem?_getD, List.getElem?_eq_getElem hlt, Option.getD_some]
        rw [e]
        exact h)
      obtain ⟨y0, y1⟩ := shlC_bd s x0 x1
      generalize rd l i = x at *
      obtain ⟨p, hp⟩ : ∃ p : Int, bits BinOp.or IntKind.u64 (IntKind.u64.wrap (x * 2 ^ s)) cc = p := ⟨_, rfl⟩
      rw [show shlW x s cc = p from hp] at HE
      have HY := Aside0.mk (And.intro y0 y1)
      clear y0 y1
      go_wp2_with (first | ((with_reducible refine gate_builtin (b := .append) (xs := #[.tmp 28, .tmp 34]) rfl ?_); at_builtin; refine Kd.R_append (Kd.int .u64) (w0 := w) w.heap.size rfl (.tmp 28) (.tmp 34) 22 58 (.int .u64 0) 8 rfl Tryz.underlying22 info58 rfl (by decide) (by omega) u5 Z p [.int .u64 p] (fun _ => True) (fun _ => False) rfl rfl ?aP (fun _ hk => hk.elim) ?aF ?aO ?aB ?aS ?aL ?_; (case aP => exact rfl); (case aB => exact (by repeat (first | (with_reducible first | exact HB.out | apply below_alloc | apply pw_below_drewN | apply below_drew1) | exact HB.out))); (case aF => exact (fun _ _ => trivial)); (case aO => exact (by (with_reducible repeat (first | apply Kd.R_alloc | apply Kd.R_drewN | apply Kd.R_drew)); exact HO.out)); (case aS => exact (below_size (by repeat (first | (with_reducible first | exact HB.out | apply below_alloc | apply pw_below_drewN | apply below_drew1) | exact HB.out)))); (case aL => have := HZ.out; omega); intro v1 w6 ho hb hg hat; clear HB HO hg hat; have HB := Aside0.mk hb; have HO := Aside0.mk ho; clear ho hb))
      go_roundw
      case rel => exact ⟨i + 1, shlC x s, Z ++ [p], by omega, HY.out.1, HY.out.2, rfl, by first | rfl | go_num, ⟨by rw [List.length_append, HZ.out]; simp; omega⟩, ⟨by rw [List.append_assoc, List.singleton_append]; exact HE.out⟩, HO, HB⟩
      case measure => (simp [intOf] <;> omega)
    · obtain rfl : i = l.length := by omega
      have b1 : decide (l.length < l.length) = false := by simp
      have b2 : decide ((l.length : Int) < l.length) = false := by simp
      have HG := Aside0.mk (show Z ++ [cc] = G by
        have h := HS.out
        rw [List.drop_length, shlL] at h
        exact h)
      have HGL := Aside0.mk (show (Z ++ [cc]).length ≤ 1000000 by rw [List.length_append, HZ.out]; simp; omega)
      go_wp2_with (first | ((with_reducible refine gate_builtin (b := .append) (xs := #[.tmp 42, .tmp 44]) rfl ?_); at_builtin; refine Kd.R_append (Kd.int .u64) (w0 := w) w.heap.size rfl (.tmp 42) (.tmp 44) 22 58 (.int .u64 0) 8 rfl Tryz.underlying22 info58 rfl (by decide) (by omega) u5 Z cc [.int .u64 cc] (fun _ => True) (fun _ => False) rfl rfl ?aP (fun _ hk => hk.elim) ?aF ?aO ?aB ?aS ?aL ?_; (case aP => exact rfl); (case aB => exact (by repeat (first | (with_reducible first | exact HB.out | apply below_alloc | apply pw_below_drewN | apply below_drew1) | exact HB.out))); (case aF => exact (fun _ _ => trivial)); (case aO => exact (by (with_reducible repeat (first | apply Kd.R_alloc | apply Kd.R_drewN | apply Kd.R_drew)); exact HO.out)); (case aS => exact (below_size (by repeat (first | (with_reducible first | exact HB.out | apply below_alloc | apply pw_below_drewN | apply below_drew1) | exact HB.out)))); (case aL => have := HZ.out; omega); intro v1 w6 ho hb hg hat; clear HB HO hg hat; have HB := Aside0.mk hb; obtain ⟨A3, c3, e3⟩ := Kd.R_slice ho; subst e3; have HO := Aside0.mk ho; clear ho hb))
      obtain ⟨_, hcap, hC⟩ := Kd.R_reads' HO.out
      have h := norm_calls A3 c3 (Z ++ [cc]) _ HGL.out hcap hC
      rw [show (Z ++ [cc]).length = Z.length + 1 by simp] at h
      refine h.mono ?_
      rintro e w7 ⟨v, rfl, hR, hB⟩
      have HB2 := Aside0.mk (below_step HB.out hB)
      have HR2 := Aside0.mk (Kd.R_lower hR (below_size HB.out))
      rw [HG.out] at HR2
      clear hR hB hC hcap h
      go_wp2
      go_ret
      exact ⟨_, rfl, by rw [HF.out]; exact HR2.out, HB2.out⟩
end Go.Proofs.YtmbdbkcifmkpbaaGreatDoor.OwnA
end
section
set_option linter.unusedVariables false
set_option linter.unusedSimpArgs false
namespace Go.Proofs.YtmbdbkcifmkpbaaGreatDoor.OwnA
open Go.RowKit Go.Proofs.YtmbdbkcifmkpbaaGreatDoorW.PrintWords Go.Proofs.YtmbdbkcifmkpbaaGreatDoorW.PrintLast Go.Proofs.YtmbdbkcifmkpbaaGreatDoorW.PrintMore
attribute [local go_sem] max2_mx min2_int max_two min_two max_three min_three max_four min_four

def shrW (s : Nat) (x y : Int) : Int := bits BinOp.or IntKind.u64 (x / 2 ^ s) (IntKind.u64.wrap (IntKind.u64.wrap (y * 2) * 2 ^ (63 - s)))
def shrL (s : Nat) : List Int → List Int
  | [] => []
  | [x] => [x / 2 ^ s]
  | x :: y :: l => shrW s x y :: shrL s (y :: l)
def shrF (l : List Int) (n : Int) : List Int := if l.length ≤ (n / 64).toNat then [] else normF (shrL (n % 64).toNat (l.drop (n / 64).toNat))

set_option maxHeartbeats 800000 in
set_option maxRecDepth 100000 in
theorem shr_calls (A : Option Addr) (c : Nat) (l : List Int) (n : Int) (w : World) (hl : l.length ≤ 100000) (hc : l.length ≤ c) (h0 : 0 ≤ n) (h1 : n ≤ 65536) (hu : u64s l)
    (hr : Kd.C (Kd.int .u64) w A l.length l) :
    Calls Tryz.prog 121 #[.slice A l.length c, .int .i64 n] w fun e w' => ∃ v, e = .returned v ∧ Kd.R (Kd.int .u64) 58 w' w.heap.size (fun _ => True) v (shrF l n) ∧ Below w.heap.size w w' := by
  have HR := Aside0.mk hr
  have HU := Aside0.mk hu
  clear hu
  obtain ⟨i0, hi0, _, hsz0, _⟩ := info_parts info58
  obtain ⟨q, hq⟩ : ∃ q : Nat, n / 64 = (q : Int) := ⟨(n / 64).toNat, by omega⟩
  obtain ⟨s, hs⟩ : ∃ s : Nat, n % 64 = (s : Int) := ⟨(n % 64).toNat, by omega⟩
  have hq1 : q ≤ 1024 := by omega
  have hs1 : s < 64 := by omega
  have HB := Aside0.mk (Below.refl w.heap.size w)
  have HQT := Aside0.mk (show (n / 64).toNat = q by omega)
  have HST := Aside0.mk (show (n % 64).toNat = s by omega)
  by_cases hlq : l.length ≤ q
  · have b1 : decide ((l.length : Int) ≤ q) = true := decide_eq_true (by omega)
    have b2 : decide (l.length ≤ q) = true := decide_eq_true hlq
    have HF := Aside0.mk (show shrF l n = [] by unfold shrF; rw [HQT.out, if_pos hlq])
    clear hr hi0 hsz0
    go_enter Tryz.func121, Tryz.ntmps121
    go_wp2
    go_ret
    exact ⟨_, rfl, by rw [HF.out]; exact Kd.R_nil .., HB.out⟩
  · have b1 : decide ((l.length : Int) ≤ q) = false := decide_eq_false (by omega)
    have b2 : decide (l.length ≤ q) = false := decide_eq_false hlq
    obtain ⟨A2, hdrop, hA2, hC2⟩ := print_drop_of (P := Tryz.prog) (Value.int .u64) (0 : Int) 22 58 .i64 Tryz.underlying22 hi0 hsz0 A c l (q : Int) (by omega) (by omega) hc
    rw [Int.toNat_natCast] at hdrop hA2 hC2
    have HR2 := Aside0.mk (show Kd.C (Kd.int .u64) w A2 (l.drop q).length (l.drop q) from Kd.C_of_reads (h1 := fun _ => rfl) (hA2 _ (Kd.reads_of_C hr)))
    have HC2 := Aside0.mk hC2
    clear hr hi0 hsz0 hA2 hC2
    go_enter Tryz.func121, Tryz.ntmps121
    go_wp2_with fail
    obtain ⟨D, hD⟩ : ∃ D, D = l.drop q := ⟨_, rfl⟩
    have hDl : D.length = l.length - q := by rw [hD, List.length_drop]
    have HUD := Aside0.mk (show u64s D by rw [hD]; exact fun y hy => HU.out y (List.mem_of_mem_drop hy))
    have HF := Aside0.mk (show shrF l n = normF (shrL s D) by unfold shrF; rw [HQT.out, HST.out, if_neg hlq, hD])
    rw [← hD] at HR2 HC2
    have h := clone_calls A2 (c - q) D w (by omega) HC2.out HR2.out
    rw [hDl] at h
    refine h.mono ?_
    rintro e w1 ⟨v, rfl, hR, hB⟩
    obtain ⟨g, cap, rfl, hg, _, _⟩ := Kd.R_form hR (by omega)
    obtain ⟨m, hm⟩ : ∃ m, m = l.length - q := ⟨_, rfl⟩
    rw [← hm] at hDl
    rw [hDl] at hR
    rw [hDl]
    have HO := Aside0.mk hR
    have HB1 := Aside0.mk hB
    have HG := Aside0.mk hg
    have HDL := Aside0.mk hDl
    have hm1 : 1 ≤ m := by omega
    have hm2 : m ≤ 100000 := by omega
    clear hR hB hg h HB HC2 HR2 hdrop hD hDl b1 b2 hlq hm
    have HB := HB1
    clear HB1
    go_wp2
    have HS0 := Aside0.mk (show D.take 0 ++ shrL s (D.drop 0) = shrL s D by rw [List.take_zero, List.drop_zero, List.nil_append])
    generalize shrL s D = G at HS0 HF
    simp only [hq, hs]
    clear hq hs
    go_loopw [7, 23] (fun v7 v23 wr => ∃ (i : Nat) (L : List Int), i ≤ m ∧ v23 = .int .i64 i ∧ Aside0 (L.length = m) ∧ Aside0 (L.take i ++ shrL s (L.drop i) = G) ∧ Aside0 (u64s (L.drop i)) ∧ Aside0 (Kd.R (Kd.int .u64) 58 wr w.heap.size (fun _ => True) (.slice (some ⟨g, 0, none⟩) m cap) L) ∧ Aside0 (Below w.heap.size w wr)) (fun _ v23 _ => m - (intOf v23).toNat)
    case atStart => exact ⟨0, D, Nat.zero_le _, rfl, HDL, HS0, ⟨by rw [List.drop_zero]; exact HUD.out⟩, HO, HB⟩
    case round =>
      clear HS0 HO HB HDL HUD
      obtain ⟨i, L, hi, rfl, HL, HS, HV, HO, HB⟩ := hrel
      by_cases hlt : i < m
      · have b1 : decide (i < m) = true := decide_eq_true hlt
        have b2 : decide ((i : Int) < m) = true := decide_eq_true (by omega)
        obtain ⟨hz, hf⟩ := Kd.R_celln 0 HO.out (i : Int) (by omega) (by omega)
        replace hz : wr.cell? ⟨g, i, none⟩ = some (.int .u64 (rd L i)) := hz
        replace hf : wr.frozen? ⟨g, i, none⟩ = false := hf
        by_cases hl2 : i + 1 < m
        · have b3 : decide (i + 1 < m) = true := decide_eq_true hl2
          have b4 : decide ((i : Int) + 1 < m) = true := decide_eq_true (by omega)
          obtain ⟨hz1, hf1⟩ := Kd.R_celln 0 HO.out ((i + 1 : Nat) : Int) (by omega) (by omega)
          replace hz1 : wr.cell? ⟨g, i + 1, none⟩ = some (.int .u64 (rd L ((i + 1 : Nat) : Int))) := hz1
          have HE := Aside0.mk (show L.take i ++ (shrW s (rd L i) (rd L ((i + 1 : Nat) : Int)) :: shrL s (L.drop (i + 1))) = G by
            have h := HS.out
            rw [List.drop_eq_getElem_cons (show i < L.length by rw [HL.out]; exact hlt), List.drop_eq_getElem_cons (show i + 1 < L.length by rw [HL.out]; exact hl2), shrL, ← List.drop_eq_getElem_cons (show i + 1 < L.length by rw [HL.out]; exact hl2)] at h
            have e : rd L i = L[i]'(by rw [HL.out]; exact hlt) := by unfold rd; rw [Int.toNat_natCast, List.getD_eq_getElem?_getD, List.getElem?_eq_getElem (by rw [HL.out]; exact hlt), Option.getD_some]
            have e2 : rd L ((i + 1 : Nat) : Int) = L[i + 1]'(by rw [HL.out]; exact hl2) := by unfold rd; rw [Int.toNat_natCast, List.getD_eq_getElem?_getD, List.getElem?_eq_getElem (by rw [HL.out]; exact hl2), Option.getD_some]
            rw [e, e2]
            exact h)
          have HO2 := Aside0.mk (Kd.R_putg HO.out (i : Int) (rd L i / 2 ^ s)).1
          have HB2 := Aside0.mk (show Below w.heap.size w (wr.setCell ⟨g, i, none⟩ (.int .u64 (rd L i / 2 ^ s))) from below_set HB.out HG.out)
          rw [Int.toNat_natCast] at HO2
          have hl3 : (L.set i (rd L i / 2 ^ s)).length = m := by rw [List.length_set]; exact HL.out
          obtain ⟨hz2, hf2⟩ := Kd.R_celln 0 HO2.out (i : Int) (by omega) (by omega)
          obtain ⟨hz3, hf3⟩ := Kd.R_celln 0 HO2.out ((i + 1 : Nat) : Int) (by omega) (by omega)
          replace hz2 : (wr.setCell ⟨g, i, none⟩ (.int .u64 (rd L i / 2 ^ s))).cell? ⟨g, i, none⟩ = some (.int .u64 (rd (L.set i (rd L i / 2 ^ s)) i)) := hz2
          replace hf2 : (wr.setCell ⟨g, i, none⟩ (.int .u64 (rd L i / 2 ^ s))).frozen? ⟨g, i, none⟩ = false := hf2
          replace hz3 : (wr.setCell ⟨g, i, none⟩ (.int .u64 (rd L i / 2 ^ s))).cell? ⟨g, i + 1, none⟩ = some (.int .u64 (rd (L.set i (rd L i / 2 ^ s)) ((i + 1 : Nat) : Int))) := hz3
          have e2 : rd (L.set i (rd L i / 2 ^ s)) i = rd L i / 2 ^ s := by unfold rd; rw [Int.toNat_natCast, List.getD_eq_getElem?_getD, List.getElem?_set_self (by rw [HL.out]; exact hlt), Option.getD_some]
          have e3 : rd (L.set i (rd L i / 2 ^ s)) ((i + 1 : Nat) : Int) = rd L ((i + 1 : Nat) : Int) := by unfold rd; rw [Int.toNat_natCast, List.getD_eq_getElem?_getD, List.getElem?_set_ne (by omega), ← List.getD_eq_getElem?_getD]
          rw [e2] at hz2
          rw [e3] at hz3
          have HZ := Aside0.mk (And.intro hz2 (And.intro hf2 hz3))
          have HV2 := Aside0.mk (show u64s (L.drop (i + 1)) from fun y hy => HV.out y (by rw [← List.drop_drop] at hy; exact List.mem_of_mem_drop hy))
          clear e2 e3 hz2 hz3 hf2 hf3 hl3
          generalize rd L i = x at *
          generalize rd L ((i + 1 : Nat) : Int) = y at *
          go_wp2
          obtain ⟨hz2, hf2, hz3⟩ := HZ.out
          generalize wr.setCell ⟨g, i, none⟩ (.int .u64 (x / 2 ^ s)) = w2 at *
          have hq3 : (i : Int) + 1 < (m : Int) := by omega
          have hq4 : (0 : Int) ≤ (i : Int) + 1 := by omega
          have hq5 : ((i : Int) + 1).toNat = i + 1 := by omega
          have hq6 : IntKind.i64.wrap ((i : Int) + 1) = (i : Int) + 1 := (i64_w _).trans (ww (by omega) (by omega))
          go_still_tail 15, (by kernel_rfl)
          change wpList _ _ _ _ _ w2.drew
          have HO3 := Aside0.mk (Kd.R_drew HO2.out)
          have HB3 := Aside0.mk (below_drew1 HB2.out)
          have hz4 : w2.drew.cell? ⟨g, i, none⟩ = some (.int .u64 (x / 2 ^ s)) := hz2
          have hf4 : w2.drew.frozen? ⟨g, i, none⟩ = false := hf2
          clear hz2 hf2 hz3 HZ hq3 hq4 hq5 hq6
          generalize w2.drew = w3 at *
          go_wp2
          go_roundw
          case rel => exact ⟨i + 1, (L.set i (x / 2 ^ s)).set i (shrW s x y), by omega, by first | rfl | go_num, ⟨by rw [List.length_set, List.length_set]; exact HL.out⟩, ⟨by rw [set_take (by rw [List.length_set, HL.out]; exact hlt), List.take_set_of_le (Nat.le_refl _), List.append_assoc, List.singleton_append, List.drop_set_of_lt (by omega), List.drop_set_of_lt (by omega)]; exact HE.out⟩, ⟨by rw [List.drop_set_of_lt (by omega), List.drop_set_of_lt (by omega)]; exact HV2.out⟩, ⟨by rw [show min (63 - s) 64 = 63 - s by omega]; exact (Kd.R_putg HO3.out (i : Int) (shrW s x y)).1⟩, ⟨below_set HB3.out HG.out⟩⟩
          case measure => (simp [intOf] <;> omega)
        · have b3 : decide (i + 1 < m) = false := decide_eq_false hl2
          have b4 : decide ((i : Int) + 1 < m) = false := decide_eq_false (by omega)
          have HE := Aside0.mk (show L.take i ++ (rd L i / 2 ^ s :: shrL s (L.drop (i + 1))) = G by
            have h := HS.out
            rw [List.drop_eq_getElem_cons (show i < L.length by rw [HL.out]; exact hlt), List.drop_of_length_le (show L.length ≤ i + 1 by rw [HL.out]; omega), shrL] at h
            have e : rd L i = L[i]'(by rw [HL.out]; exact hlt) := by unfold rd; rw [Int.toNat_natCast, List.getD_eq_getElem?_getD, List.getElem?_eq_getElem (by rw [HL.out]; exact hlt), Option.getD_some]
            rw [e, List.drop_of_length_le (show L.length ≤ i + 1 by rw [HL.out]; omega), shrL]
            exact h)
          have HV2 := Aside0.mk (show u64s (L.drop (i + 1)) from fun y hy => HV.out y (by rw [← List.drop_drop] at hy; exact List.mem_of_mem_drop hy))
          generalize rd L i = x at *
          go_wp2
          go_roundw
          case rel => exact ⟨i + 1, L.set i (x / 2 ^ s), by omega, by first | rfl | go_num, ⟨by rw [List.length_set]; exact HL.out⟩, ⟨by rw [set_take (by rw [HL.out]; exact hlt), List.append_assoc, List.singleton_append, List.drop_set_of_lt (by omega)]; exact HE.out⟩, ⟨by rw [List.drop_set_of_lt (by omega)]; exact HV2.out⟩, ⟨(Kd.R_putg HO.out (i : Int) _).1⟩, ⟨below_set HB.out HG.out⟩⟩
          case measure => (simp [intOf] <;> omega)
      · obtain rfl : i = m := by omega
        have b1 : decide (i < i) = false := by simp
        have b2 : decide ((i : Int) < i) = false := by simp
        have hGL : G = L := by
          have h := HS.out
          rw [List.drop_of_length_le (Nat.le_of_eq HL.out), shrL, List.append_nil, List.take_of_length_le (Nat.le_of_eq HL.out)] at h
          exact h.symm
        obtain ⟨hx_, hcap, hC⟩ := Kd.R_reads' HO.out
        have h := norm_calls (some ⟨g, 0, none⟩) cap L wr (by rw [HL.out]; omega) (by rw [HL.out]; exact hcap) hC
        rw [HL.out] at h
        have HN := Aside0.mk h
        have HGL := Aside0.mk hGL
        clear hx_ hcap hC h hGL
        go_wp2_with fail
        refine HN.out.mono ?_
        rintro e w7 ⟨v, rfl, hR, hB⟩
        have HB2 := Aside0.mk (below_step HB.out hB)
        have HR2 := Aside0.mk (Kd.R_lower hR (below_size HB.out))
        clear hR hB
        go_wp2
        go_ret
        exact ⟨_, rfl, by rw [HF.out, HGL.out]; exact HR2.out, HB2.out⟩
end Go.Proofs.YtmbdbkcifmkpbaaGreatDoor.OwnA
end
section
set_option linter.unusedVariables false
set_option linter.unusedSimpArgs false
namespace Go.Proofs.YtmbdbkcifmkpbaaGreatDoor.OwnA
open Go.RowKit Go.Proofs.YtmbdbkcifmkpbaaGreatDoorW.PrintWords Go.Proofs.YtmbdbkcifmkpbaaGreatDoorW.PrintLast Go.Proofs.YtmbdbkcifmkpbaaGreatDoorW.PrintMore
attribute [local go_sem] max2_mx min2_int max_two min_two max_three min_three max_four min_four

/-- the upper word of a product of two, as the library reckons it -/
def mulHi (a0 : Int) (a1 : Int) : Int := IntKind.u64.wrap ((IntKind.u64.wrap ((IntKind.u64.wrap ((a0 / 4294967296) * (a1 / 4294967296))) + ((IntKind.u64.wrap ((IntKind.u64.wrap ((a0 / 4294967296) * (Go.bits .and .u64 a1 4294967295))) + ((IntKind.u64.wrap ((Go.bits .and .u64 a0 4294967295) * (Go.bits .and .u64 a1 4294967295))) / 4294967296))) / 4294967296))) + ((IntKind.u64.wrap ((Go.bits .and .u64 (IntKind.u64.wrap ((IntKind.u64.wrap ((a0 / 4294967296) * (Go.bits .and .u64 a1 4294967295))) + ((IntKind.u64.wrap ((Go.bits .and .u64 a0 4294967295) * (Go.bits .and .u64 a1 4294967295))) / 4294967296))) 4294967295) + (IntKind.u64.wrap ((Go.bits .and .u64 a0 4294967295) * (a1 / 4294967296))))) / 4294967296))
def mulLo (a0 : Int) (a1 : Int) : Int := IntKind.u64.wrap (a0 * a1)
theorem mulHi_bd (a b : Int) : 0 ≤ mulHi a b ∧ mulHi a b < 18446744073709551616 := by
  unfold mulHi
  generalize (IntKind.u64.wrap (IntKind.u64.wrap (a / 4294967296 * (b / 4294967296)) + _) + _ : Int) = z
  rw [IntKind.wrap_u64]; omega
theorem mulLo_bd (a b : Int) : 0 ≤ mulLo a b ∧ mulLo a b < 18446744073709551616 := by
  unfold mulLo
  rw [IntKind.wrap_u64]; omega
set_option maxHeartbeats 8000000 in
set_option maxRecDepth 100000 in
theorem mul64_calls (a0 : Int) (a1 : Int) (w : World) :
    Calls Tryz.prog 130 #[.int .u64 a0, .int .u64 a1] w fun e w' => e = .returned (.tuple #[.int .u64 (mulHi a0 a1), .int .u64 (mulLo a0 a1)]) ∧ Drawn0 w w' := by
  unfold mulHi mulLo
  go_enter Tryz.func130, Tryz.ntmps130
  go_wp2
  go_ret2
  exact ⟨by first | rfl | (simp; done) | (simp [*]; done), by repeat (first | exact Drawn0.refl _ | apply Drawn0.step)⟩

/-- a row of the product, added from place `o` on -/
def rowGo (x : Int) : List Int → List Int → Nat → Int → List Int
  | [], L, o, c => L.set o c
  | y :: a, L, o, c =>
    rowGo x a (L.set o ((rd L o + (mulLo x y + c) % 18446744073709551616) % 18446744073709551616)) (o + 1)
      (IntKind.u64.wrap (IntKind.u64.wrap (mulHi x y + (mulLo x y + c) / 18446744073709551616) + (rd L o + (mulLo x y + c) % 18446744073709551616) / 18446744073709551616))
theorem rowGo_len (x : Int) : ∀ (a L : List Int) (o : Nat) (c : Int), (rowGo x a L o c).length = L.length
  | [], L, o, c => by simp [rowGo]
  | y :: a, L, o, c => by rw [rowGo, rowGo_len x a, List.length_set]
theorem u64s_set {L : List Int} (h : u64s L) (i : Nat) {v : Int} (h0 : 0 ≤ v) (h1 : v < 18446744073709551616) : u64s (L.set i v) := fun y hy => by
  rcases List.mem_or_eq_of_mem_set hy with hy | rfl
  · exact h y hy
  · exact ⟨h0, h1⟩
theorem rowGo_u64 (x : Int) : ∀ (a L : List Int) (o : Nat) (c : Int), u64s L → 0 ≤ c → c < 18446744073709551616 → u64s (rowGo x a L o c)
  | [], L, o, c, h, h0, h1 => u64s_set h o h0 h1
  | y :: a, L, o, c, h, h0, h1 => by
    rw [rowGo]
    exact rowGo_u64 x a _ _ _ (u64s_set h _ (by omega) (by omega)) (by rw [IntKind.wrap_u64]; omega) (by rw [IntKind.wrap_u64]; omega)

set_option maxHeartbeats 800000 in
set_option maxRecDepth 100000 in
theorem row_calls (g o N cap : Nat) (L a : List Int) (A : Option Addr) (c : Nat) (x : Int) (w0 w : World) (hN : L.length = N) (hoN : o + a.length < N) (hb : N ≤ 1000000) (hua : u64s a) (huL : u64s L) (x0 : 0 ≤ x) (x1 : x < 18446744073709551616)
    (ha : Kd.C (Kd.int .u64) w0 A a.length a) (hac : a.length ≤ c) (HB0 : Below w0.heap.size w0 w) (hg : w0.heap.size ≤ g) (HO0 : Kd.R (Kd.int .u64) 58 w w0.heap.size (fun _ => True) (.slice (some ⟨g, 0, none⟩) N cap) L) :
    Calls Tryz.prog 128 #[.slice (some ⟨g, o, none⟩) (N - o) (cap - o), .slice A a.length c, .int .u64 x] w fun e w' => e = .returned (.tuple #[]) ∧ Kd.R (Kd.int .u64) 58 w' w0.heap.size (fun _ => True) (.slice (some ⟨g, 0, none⟩) N cap) (rowGo x a L o 0) ∧ Below w0.heap.size w0 w' := by
  have HR := Aside0.mk ha
  have HUA := Aside0.mk hua
  have HUL := Aside0.mk huL
  have HB := Aside0.mk HB0
  have HO := Aside0.mk HO0
  have HG := Aside0.mk hg
  have HN := Aside0.mk hN
  have HS0 := Aside0.mk (show rowGo x (a.drop 0) L (o + 0) 0 = rowGo x a L o 0 from rfl)
  generalize rowGo x a L o 0 = G at *
  clear ha hua huL HB0 HO0 hg hN
  go_enter Tryz.func128, Tryz.ntmps128
  go_wp2
  go_loopw [6, 7, 8, 9, 10, 11, 14] (fun v6 v7 v8 v9 v10 v11 v14 wr => ∃ (i : Nat) (cc : Int) (L1 : List Int), i ≤ a.length ∧ 0 ≤ cc ∧ cc < 18446744073709551616 ∧ v6 = .int .u64 cc ∧ v14 = .int .i64 i ∧ Aside0 (L1.length = N) ∧ Aside0 (u64s L1) ∧ Aside0 (rowGo x (a.drop i) L1 (o + i) cc = G) ∧ Aside0 (Kd.R (Kd.int .u64) 58 wr w0.heap.size (fun _ => True) (.slice (some ⟨g, 0, none⟩) N cap) L1) ∧ Aside0 (Below w0.heap.size w0 wr)) (fun _ _ _ _ _ _ v14 _ => a.length - (intOf v14).toNat)
  case atStart => exact ⟨0, 0, L, Nat.zero_le _, by omega, by omega, rfl, rfl, HN, HUL, HS0, HO, HB⟩
  case round =>
    clear HS0 HO HB HN HUL
    obtain ⟨i, cc, L1, hi, c0, c1, rfl, rfl, HN, HUL, HS, HO, HB⟩ := hrel
    obtain ⟨hz, hf⟩ := Kd.R_celln 0 HO.out ((o + i : Nat) : Int) (by omega) (by omega)
    replace hz : wr.cell? ⟨g, o + i, none⟩ = some (.int .u64 (rd L1 ((o + i : Nat) : Int))) := hz
    replace hf : wr.frozen? ⟨g, o + i, none⟩ = false := hf
    obtain ⟨z0, z1⟩ := u64s_rd HUL.out (o + i)
    by_cases hlt : i < a.length
    · have b1 : decide (i < a.length) = true := decide_eq_true hlt
      have b2 : decide ((i : Int) < a.length) = true := decide_eq_true (by omega)
      have b3 : decide (i < N - o) = true := decide_eq_true (by omega)
      have b4 : i < N - o := by omega
      obtain ⟨ad, rfl, hx⟩ := Kd.at_int (Kd.C_below HR.out HB.out) (i : Int) (by omega) (by omega)
      rw [Int.toNat_natCast] at hx
      obtain ⟨y0, y1⟩ := u64s_rd HUA.out i
      have HE := Aside0.mk (show rowGo x (rd a i :: a.drop (i + 1)) L1 (o + i) cc = G by
        have h := HS.out
        rw [List.drop_eq_getElem_cons hlt] at h
        have e : rd a i = a[i] := by unfold rd; rw [Int.toNat_natCast, List.getD_eq_getElem?_getD, List.getElem?_eq_getElem hlt, Option.getD_some]
        rw [e]
        exact h)
      generalize rd a i = y at *
      obtain ⟨h0, h1⟩ := mulHi_bd x y
      obtain ⟨l0, l1⟩ := mulLo_bd x y
      have HM := Aside0.mk (mul64_calls x y)
      rw [rowGo] at HE
      generalize mulHi x y = hh at *
      generalize mulLo x y = lo at *
      generalize rd L1 ((o + i : Nat) : Int) = z at *
      have ha1 := add64 l0 c0 (Int.le_refl 0) (by omega)
      have hd0 : 0 ≤ (lo + cc) % 18446744073709551616 := by omega
      have ha2 := add64 z0 hd0 (Int.le_refl 0) (by omega)
      simp only [Int.add_zero] at ha1 ha2
      go_wp2_with (first | (go_at_call 130; (with_reducible refine (HM.out _).mono ?_); rintro e w' ⟨rfl, ⟨nq, rfl⟩⟩))
      have hwb := IntKind.wrap_u64 (IntKind.u64.wrap (hh + (lo + cc) / 18446744073709551616) + (z + (lo + cc) % 18446744073709551616) / 18446744073709551616)
      have hc0 : 0 ≤ IntKind.u64.wrap (IntKind.u64.wrap (hh + (lo + cc) / 18446744073709551616) + (z + (lo + cc) % 18446744073709551616) / 18446744073709551616) := by rw [hwb]; omega
      have hc1 : IntKind.u64.wrap (IntKind.u64.wrap (hh + (lo + cc) / 18446744073709551616) + (z + (lo + cc) % 18446744073709551616) / 18446744073709551616) < 18446744073709551616 := by rw [hwb]; omega
      clear hwb
      go_roundw
      case rel => exact ⟨i + 1, _, L1.set (o + i) ((z + (lo + cc) % 18446744073709551616) % 18446744073709551616), by omega, hc0, hc1, rfl, by first | rfl | go_num, ⟨by rw [List.length_set]; exact HN.out⟩, ⟨u64s_set HUL.out _ (by omega) (by omega)⟩, ⟨by rw [← Nat.add_assoc]; exact HE.out⟩, ⟨by rw [show (z + (lo + cc)) % 18446744073709551616 = (z + (lo + cc) % 18446744073709551616) % 18446744073709551616 by omega]; exact (Kd.R_putg (Kd.R_drewN HO.out _) ((o + i : Nat) : Int) _).1⟩, ⟨below_set (by repeat (first | (with_reducible first | exact HB.out | apply below_alloc | apply pw_below_drewN | apply below_drew1) | exact HB.out)) HG.out⟩⟩
      case measure => (simp [intOf] <;> omega)
    · obtain rfl : i = a.length := by omega
      have b1 : decide (a.length < a.length) = false := by simp
      have b2 : decide ((a.length : Int) < a.length) = false := by simp
      have b3 : decide (a.length < N - o) = true := decide_eq_true (by omega)
      have b4 : a.length < N - o := by omega
      have b5 : (a.length : Int) < ((N - o : Nat) : Int) := by omega
      have HE := Aside0.mk (show L1.set (o + a.length) cc = G by
        have h := HS.out
        rw [List.drop_length, rowGo] at h
        exact h)
      go_wp2
      refine bodyPost_end (v := .tuple #[]) (by first | rfl | (simp [results, go_sem]; done)) rfl ⟨rfl, ?_, ?_⟩
      · rw [← HE.out]
        first | exact (Kd.R_putg HO.out ((o + a.length : Nat) : Int) _).1 | exact (Kd.R_putg (Kd.R_drewN HO.out _) ((o + a.length : Nat) : Int) _).1
      · exact below_set (by repeat (first | (with_reducible first | exact HB.out | apply below_alloc | apply pw_below_drewN | apply below_drew1) | exact HB.out)) HG.out
end Go.Proofs.YtmbdbkcifmkpbaaGreatDoor.OwnA
end
section
set_option linter.unusedVariables false
set_option linter.unusedSimpArgs false
namespace Go.Proofs.YtmbdbkcifmkpbaaGreatDoor.OwnA
open Go.RowKit Go.Proofs.YtmbdbkcifmkpbaaGreatDoorW.PrintWords Go.Proofs.YtmbdbkcifmkpbaaGreatDoorW.PrintLast Go.Proofs.YtmbdbkcifmkpbaaGreatDoorW.PrintMore
attribute [local go_sem] max2_mx min2_int max_two min_two max_three min_three max_four min_four

def mulL (a : List Int) : List Int → List Int → Nat → List Int
  | [], L, _ => L
  | x :: b, L, i => mulL a b (rowGo x a L i 0) (i + 1)
def mulF (a b : List Int) : List Int := normF (mulL a b (List.replicate (a.length + b.length + 1) 0) 0)
theorem mulL_len (a : List Int) : ∀ (b L : List Int) (i : Nat), (mulL a b L i).length = L.length
  | [], L, i => rfl
  | x :: b, L, i => by rw [mulL, mulL_len a b, rowGo_len]
theorem mulL_u64 (a : List Int) : ∀ (b L : List Int) (i : Nat), u64s L → u64s (mulL a b L i)
  | [], L, i, h => h
  | x :: b, L, i, h => mulL_u64 a b _ _ (rowGo_u64 x a L i 0 h (by omega) (by omega))
theorem u64s_zeros (n : Nat) : u64s (List.replicate n 0) := fun y hy => by
  rw [List.eq_of_mem_replicate hy]; omega
theorem u64s_take {l : List Int} (h : u64s l) (n : Nat) : u64s (l.take n) := fun y hy => h y (List.mem_of_mem_take hy)

set_option maxHeartbeats 800000 in
set_option maxRecDepth 100000 in
theorem mul_calls (A B : Option Addr) (c d : Nat) (a b : List Int) (w : World) (hla : a.length ≤ 100000) (hlb : b.length ≤ 100000) (hc : a.length ≤ c) (hd : b.length ≤ d) (hua : u64s a) (hub : u64s b)
    (ha : Kd.C (Kd.int .u64) w A a.length a) (hb : Kd.C (Kd.int .u64) w B b.length b) :
    Calls Tryz.prog 118 #[.slice A a.length c, .slice B b.length d] w fun e w' => ∃ v, e = .returned v ∧ Kd.R (Kd.int .u64) 58 w' w.heap.size (fun _ => True) v (mulF a b) ∧ Below w.heap.size w w' := by
  have HRA := Aside0.mk ha
  have HRB := Aside0.mk hb
  have HUA := Aside0.mk hua
  have HUB := Aside0.mk hub
  clear ha hb hua hub
  obtain ⟨i0, hi0, _, hsz0, _⟩ := info_parts info58
  have HI0 := Aside0.mk hi0
  have HSZ0 := Aside0.mk hsz0
  clear hi0 hsz0
  obtain ⟨m, hm⟩ : ∃ m : Nat, m = a.length + b.length := ⟨_, rfl⟩
  have hm1 : m ≤ 200000 := by omega
  have HM := Aside0.mk hm
  clear hm
  have HB := Aside0.mk (Below.refl w.heap.size w)
  go_enter Tryz.func118, Tryz.ntmps118
  go_wp2_with (first | ((with_reducible refine gate_dst (N := 14) rfl ?_); refine Kd.R_make (Kd.int .u64) _ 58 rfl (N := 14) rfl 22 _ _ rfl ((a.length : Int) + b.length + 1) ?hx1 ?hx2 Tryz.underlying22 (.int .u64 0) 8 info58 rfl (by decide) (by omega) 0 (ok := fun _ => True) (okp := fun _ => True) rfl (fun _ hk => hk) trivial (by omega) (by omega) (Below.refl _ _) (Nat.le_refl _) ?_; (case hx1 => first | rfl | (simp; done)); (case hx2 => first | rfl | (simp; done)); intro v0 w1 ho hb hg_ hnew_; rw [show ((a.length : Int) + b.length + 1).toNat = m + 1 from (by have := HM.out; omega)] at ho; clear hg_ hnew_; obtain ⟨g, cap, rfl, hg, _, _⟩ := Kd.R_form ho (by simp); have hn2 : (List.replicate (m + 1) (0 : Int)).length = m + 1 := (by simp); (try rw [hn2] at ho); (try rw [hn2]); have HO := Aside0.mk ho; clear HB; have HB := Aside0.mk hb; have HG := Aside0.mk hg; have HL0 := Aside0.mk hn2; clear ho hb hn2 hg))
  have HUL := Aside0.mk (u64s_zeros (m + 1))
  have HS0 := Aside0.mk (show mulL a (b.drop 0) (List.replicate (m + 1) 0) 0 = mulL a b (List.replicate (m + 1) 0) 0 from rfl)
  have HF := Aside0.mk (show mulF a b = normF (mulL a b (List.replicate (m + 1) 0) 0) by unfold mulF; rw [HM.out])
  have HGL := Aside0.mk (show (mulL a b (List.replicate (m + 1) 0) 0).length = m + 1 by rw [mulL_len, List.length_replicate])
  generalize mulL a b (List.replicate (m + 1) 0) 0 = G at *
  generalize List.replicate (m + 1) (0 : Int) = L0 at HO HS0 HL0 HUL
  have hal : a.length + b.length = m := HM.out.symm
  go_loopw [6, 7, 17] (fun v6 v7 v17 wr => ∃ (i : Nat) (L : List Int), i ≤ b.length ∧ v17 = .int .i64 i ∧ Aside0 (L.length = m + 1) ∧ Aside0 (u64s L) ∧ Aside0 (mulL a (b.drop i) L i = G) ∧ Aside0 (Kd.R (Kd.int .u64) 58 wr w.heap.size (fun _ => True) (.slice (some ⟨g, 0, none⟩) (m + 1) cap) L) ∧ Aside0 (Below w.heap.size w wr)) (fun _ _ v17 _ => b.length - (intOf v17).toNat)
  case atStart => exact ⟨0, L0, Nat.zero_le _, rfl, HL0, HUL, HS0, HO, HB⟩
  case round =>
    clear HS0 HO HB HL0 HUL
    obtain ⟨i, L, hi, rfl, HL, HUL, HS, HO, HB⟩ := hrel
    by_cases hlt : i < b.length
    · have b1 : decide (i < b.length) = true := decide_eq_true hlt
      have b2 : decide ((i : Int) < b.length) = true := decide_eq_true (by omega)
      obtain ⟨ad, rfl, hx⟩ := Kd.at_int (Kd.C_below HRB.out HB.out) (i : Int) (by omega) (by omega)
      rw [Int.toNat_natCast] at hx
      obtain ⟨x0, x1⟩ := u64s_rd HUB.out i
      have HE := Aside0.mk (show mulL a (b.drop (i + 1)) (rowGo (rd b i) a L i 0) (i + 1) = G by
        have h := HS.out
        rw [List.drop_eq_getElem_cons hlt, mulL] at h
        have e : rd b i = b[i] := by unfold rd; rw [Int.toNat_natCast, List.getD_eq_getElem?_getD, List.getElem?_eq_getElem hlt, Option.getD_some]
        rw [e]
        exact h)
      generalize rd b i = x at *
      obtain ⟨hx_, hcap, hC⟩ := Kd.R_reads' HO.out
      have hcut := cut_from (P := Tryz.prog) 22 58 .i64 Tryz.underlying22 HI0.out 1 HSZ0.out (some ⟨g, 0, none⟩) (m + 1) cap (i : Int) (by omega) (by omega)
      rw [Int.toNat_natCast, if_neg (by omega)] at hcut
      have hadd : (some (⟨g, 0, none⟩ : Addr)).map (·.add (i * 1)) = some ⟨g, i, none⟩ := by
        simp only [Option.map_some, Addr.add, Nat.mul_one]
        by_cases h : i = 0
        · subst h; rfl
        · simp [h]
      rw [hadd] at hcut
      have HRW := Aside0.mk (row_calls g i (m + 1) cap L a A c x w wr HL.out (by omega) (by omega) HUA.out HUL.out x0 x1 HRA.out hc HB.out HG.out HO.out)
      clear hx_ hcap hC hadd
      go_wp2_with fail
      refine HRW.out.mono ?_
      rintro e w2 ⟨rfl, hR, hB⟩
      have HO2 := Aside0.mk hR
      have HB2 := Aside0.mk hB
      clear hR hB
      go_wp2
      go_roundw
      case rel => exact ⟨i + 1, rowGo x a L i 0, by omega, by first | rfl | go_num, ⟨by rw [rowGo_len]; exact HL.out⟩, ⟨rowGo_u64 x a L i 0 HUL.out (by omega) (by omega)⟩, HE, HO2, HB2⟩
      case measure => (simp [intOf] <;> omega)
    · obtain rfl : i = b.length := by omega
      have b1 : decide (b.length < b.length) = false := by simp
      have b2 : decide ((b.length : Int) < b.length) = false := by simp
      have hLG : L = G := by
        have h := HS.out
        rw [List.drop_length, mulL] at h
        exact h
      obtain ⟨hx_, hcap, hC⟩ := Kd.R_reads' HO.out
      clear hx_
      have hsz := size_calls (some ⟨g, 0, none⟩) cap L wr (by rw [HL.out]; exact hcap) hC
      have hsl := sizeF_le L L.length
      rw [HL.out] at hsz hsl
      have hcut := cut_to (P := Tryz.prog) 22 58 .i64 Tryz.underlying22 HI0.out (some ⟨g, 0, none⟩) (m + 1) cap ((sizeF L (m + 1) : Nat) : Int) (by omega) (by omega) hcap
      rw [Int.toNat_natCast] at hcut
      have HSZ := Aside0.mk hsz
      have HR := Aside0.mk (show Kd.R (Kd.int .u64) 58 wr w.heap.size (fun _ => True) (.slice (some ⟨g, 0, none⟩) (sizeF L (m + 1)) cap) (mulF a b) by
        have h := Kd.R_take HO.out (m := sizeF L (m + 1)) (by rw [HL.out]; exact hsl)
        have e : mulF a b = L.take (sizeF L (m + 1)) := by
          rw [HF.out, ← hLG]
          unfold normF
          rw [HL.out]
        rw [e]
        exact h)
      clear hC hsz hcap hLG
      go_wp2_with (first | (go_at_call 119; (with_reducible refine HSZ.out.mono ?_); rintro e w' ⟨rfl, rfl⟩))
      go_ret
      exact ⟨_, rfl, HR.out, HB.out⟩
end Go.Proofs.YtmbdbkcifmkpbaaGreatDoor.OwnA
end
section
set_option linter.unusedVariables false
set_option linter.unusedSimpArgs false
namespace Go.Proofs.YtmbdbkcifmkpbaaGreatDoor.OwnA
open Go.RowKit Go.Proofs.YtmbdbkcifmkpbaaGreatDoorW.PrintWords Go.Proofs.YtmbdbkcifmkpbaaGreatDoorW.PrintLast Go.Proofs.YtmbdbkcifmkpbaaGreatDoorW.PrintMore
attribute [local go_sem] max2_mx min2_int max_two min_two max_three min_three max_four min_four

theorem backward_calls (A : Option Addr) (n c : Nat) (w : World) : Calls Tryz.prog 123 #[.slice A n c] w fun e w' => e = .returned (.func (.func 129) #[] #[.pointer (some ⟨w.heap.size, 0, none⟩)]) ∧ w' = w.alloc (.cells #[.slice A n c] 22) := by
  go_enter Tryz.func123, Tryz.ntmps123
  go_wp2
  go_ret
  exact ⟨rfl, rfl⟩

set_option maxHeartbeats 800000 in
set_option maxRecDepth 100000 in
theorem backiter_calls (w0 : World) (A : Option Addr) (c : Nat) (l : List Int) (hl : l.length ≤ 1000000) (hc : l.length ≤ c) (hr : Kd.C (Kd.int .u64) w0 A l.length l)
    (r Bn : Nat) (w : World) (hb0 : Below w0.heap.size w0 w) (hx : Boxed w Bn 22 (.slice A l.length c)) (p : Nat → Bool)
    (J : Nat → World → Prop) (Jx : Nat → World → Prop)
    (hY1 : ∀ i X, i < l.length → p i = true → J (i + 1) X → YieldAt Fence.wide 3 Tryz.prog r #[.int .i64 i, .int .u64 (rd l i)] X fun e Y => e = .returned (.bool true) ∧ J i Y ∧ Y.heap[Bn]? = X.heap[Bn]? ∧ Below w0.heap.size X Y)
    (hY0 : ∀ i X, i < l.length → p i = false → J (i + 1) X → YieldAt Fence.wide 3 Tryz.prog r #[.int .i64 i, .int .u64 (rd l i)] X fun e Y => e = .returned (.bool false) ∧ Jx i Y)
    (h0 : J l.length w) :
    Calls Tryz.prog 129 #[.func (.yield r) #[] #[], .pointer (some ⟨Bn, 0, none⟩)] w fun e W => (∃ v, e = .returned v) ∧
      ((J 0 W ∧ ∀ j, j < l.length → p j = true) ∨ (∃ i, i < l.length ∧ p i = false ∧ (∀ j, i < j → j < l.length → p j = true) ∧ Jx i W)) := by
  have HR := Aside0.mk hr
  have HC := Aside0.mk hc
  have HB0 := Aside0.mk hb0
  have HX := Aside0.mk hx
  have HY1 := Aside0.mk hY1
  have HY0 := Aside0.mk hY0
  have H0 := Aside0.mk h0
  have hcell := hx.cell
  have hfroz := hx.frozen
  clear hr hc hb0 hx hY1 hY0 h0
  go_enter Tryz.func129, Tryz.ntmps129
  go_wp2
  clear hcell hfroz
  go_loopw [3] (fun v3 wr => ∃ k : Nat, k ≤ l.length ∧ v3 = .int .i64 ((k : Int) - 1) ∧ Aside0 (Boxed wr Bn 22 (.slice A l.length c)) ∧ Aside0 (∀ j, k ≤ j → j < l.length → p j = true) ∧ Aside0 (J k wr) ∧ Aside0 (Below w0.heap.size w0 wr)) (fun v3 _ => (intOf v3 + 1).toNat)
  case atStart => exact ⟨l.length, Nat.le_refl _, rfl, HX, ⟨fun j h1 h2 => by omega⟩, H0, HB0⟩
  case round =>
    clear HX HB0 H0
    obtain ⟨k, hk, rfl, HX, HP, HJ, HB⟩ := hrel
    have hcell := HX.out.cell
    have hfroz := HX.out.frozen
    cases k with
    | zero =>
      have HJ0 := Aside0.mk (show J 0 wr from HJ.out)
      have HP0 := Aside0.mk (show ∀ j, j < l.length → p j = true from fun j h => HP.out j (Nat.zero_le _) h)
      rw [show ((0 : Nat) : Int) - 1 = -1 from rfl]
      go_wp2
      go_end0
      exact ⟨⟨_, rfl⟩, .inl ⟨HJ0.out, HP0.out⟩⟩
    | succ i =>
      have hlt : i < l.length := by omega
      have hki : ((i + 1 : Nat) : Int) - 1 = (i : Int) := by omega
      rw [hki]
      have b1 : decide ((0 : Int) ≤ (i : Int)) = true := decide_eq_true (by omega)
      have b2 : (i : Int) < l.length := by omega
      obtain ⟨ad, rfl, hxx⟩ := Kd.at_int (Kd.C_below HR.out HB.out) (i : Int) (by omega) (by omega)
      rw [Int.toNat_natCast] at hxx
      clear hki
      cases hp : p i with
      | true =>
        have HPI := Aside0.mk hp
        have HPN := Aside0.mk (show ∀ j, i ≤ j → j < l.length → p j = true from fun j h1 h2 => by
          by_cases h : j = i
          · rw [h]; exact hp
          · exact HP.out j (by omega) h2)
        obtain ⟨fn, tmps, asg, bdy, hy, hRd⟩ := HY1.out i wr hlt hp HJ.out
        clear hp
        go_upto_region 3 with (fail)
        refine (wpIn_wide (n := 4)).1 ?_
        gi_wp2
        refine hRd.mono ?_
        rintro e W2 ⟨rfl, hj, hbx, hbl2⟩
        have HJ3 := Aside0.mk hj
        have HX3 := Aside0.mk (show Boxed W2 Bn 22 (.slice (some ad) l.length c) from hbx.trans HX.out)
        have HB3 := Aside0.mk (HB.out.trans hbl2)
        clear hj hbx hbl2 hy hRd hcell hfroz hxx
        gi_wp2
        go_wp2
        go_roundw
        case rel => exact ⟨i, by omega, by first | rfl | go_num, HX3, HPN, HJ3, HB3⟩
        case measure => (simp [intOf] <;> omega)
      | false =>
        have HPI := Aside0.mk hp
        have HPN := Aside0.mk (show ∀ j, i < j → j < l.length → p j = true from fun j h1 h2 => HP.out j (by omega) h2)
        obtain ⟨fn, tmps, asg, bdy, hy, hRd⟩ := HY0.out i wr hlt hp HJ.out
        clear hp
        go_upto_region 3 with (fail)
        refine (wpIn_wide (n := 4)).1 ?_
        gi_wp2
        refine hRd.mono ?_
        rintro e W2 ⟨rfl, hx⟩
        have HX2 := Aside0.mk hx
        clear hx hy hRd hcell hfroz hxx
        gi_wp2
        go_wp2
        exact bodyPost_ret (results_none rfl _ _ _) rfl ⟨⟨_, rfl⟩, .inr ⟨i, hlt, HPI.out, HPN.out, HX2.out⟩⟩
end Go.Proofs.YtmbdbkcifmkpbaaGreatDoor.OwnA
end
section
set_option linter.unusedVariables false
set_option linter.unusedSimpArgs false
namespace Go.Proofs.YtmbdbkcifmkpbaaGreatDoor.OwnA
open Go.RowKit Go.Proofs.YtmbdbkcifmkpbaaGreatDoorW.PrintWords Go.Proofs.YtmbdbkcifmkpbaaGreatDoorW.PrintLast Go.Proofs.YtmbdbkcifmkpbaaGreatDoorW.PrintMore
attribute [local go_sem] max2_mx min2_int max_two min_two max_three min_three max_four min_four

def ordF (b : Bool) : Int := if b then -1 else 1
def cmpGo (a b : List Int) : Nat → Int
  | 0 => 0
  | n + 1 => if rd a n = rd b n then cmpGo a b n else ordF (decide (rd a n < rd b n))
def cmpF (a b : List Int) : Int :=
  if sizeF a a.length = sizeF b b.length then cmpGo a b (sizeF a a.length) else ordF (decide (sizeF a a.length < sizeF b b.length))
theorem cmpGo_all (a b : List Int) : ∀ n : Nat, (∀ j : Nat, j < n → rd a j = rd b j) → cmpGo a b n = 0
  | 0, _ => rfl
  | n + 1, h => by rw [cmpGo, if_pos (h n (by omega))]; exact cmpGo_all a b n (fun j hj => h j (by omega))
theorem cmpGo_at (a b : List Int) (i : Nat) (hi : rd a i ≠ rd b i) : ∀ n : Nat, i < n → (∀ j : Nat, i < j → j < n → rd a j = rd b j) → cmpGo a b n = ordF (decide (rd a i < rd b i))
  | 0, h, _ => by omega
  | n + 1, h, hj => by
    by_cases he : n = i
    · subst he; rw [cmpGo, if_neg hi]
    · rw [cmpGo, if_pos (hj n (by omega) (by omega))]
      exact cmpGo_at a b i hi n (by omega) (fun j h1 h2 => hj j h1 (by omega))
theorem rd_take {l : List Int} {n i : Nat} (h : i < n) : rd (l.take n) i = rd l i := by
  unfold rd
  rw [Int.toNat_natCast, List.getD_eq_getElem?_getD, List.getD_eq_getElem?_getD, List.getElem?_take, if_pos h]

/-- between two rounds of the comparison -/
def JC (w : World) (va vb : Value) (o : Obj) (W : World) : Prop :=
  Boxed W w.heap.size 22 va ∧ Boxed W (w.heap.size + 1) 22 vb ∧ Boxed W (w.heap.size + 2) 3 (.int .i64 0) ∧ W.heap[w.heap.size + 4 + 1]? = some o ∧ W.heap[w.heap.size + 4]? = some (.deferred (some [])) ∧ Below w.heap.size w W
/-- where a round has come to an answer -/
def JE (w : World) (r : Int) (o : Obj) (W : World) : Prop :=
  Boxed W (w.heap.size + 2) 3 (.int .i64 r) ∧ W.heap[w.heap.size + 4 + 1]? = some o ∧ W.heap[w.heap.size + 4]? = some (.deferred (some [])) ∧ Below w.heap.size w W
theorem boxPut {W : World} {B l t : Nat} {v : Value} {o : Obj} (h : Boxed W B t v) (hne : B ≠ l) : Boxed (W.putObj l o) B t v := h.kept (grownBy_putObj' W l o) (by simpa using hne)
theorem lt_of_heap {W : World} {g : Nat} {o : Obj} (h : W.heap[g]? = some o) : g < W.heap.size := (Array.getElem?_eq_some_iff.1 h).1

set_option maxHeartbeats 400000 in
theorem order_calls (b : Bool) (w : World) : Calls Tryz.prog 122 #[.bool b] w fun e w' => e = .returned (.int .i64 (ordF b)) ∧ w' = w := by
  cases b
  · go_enter Tryz.func122, Tryz.ntmps122
    go_wp2
    go_ret
    exact ⟨rfl, rfl⟩
  · go_enter Tryz.func122, Tryz.ntmps122
    go_wp2
    go_ret
    exact ⟨rfl, rfl⟩

theorem boxNew {W : World} {g t : Nat} {v : Value} (h : g = W.heap.size) : Boxed (W.alloc (.cells #[v] t)) g t v := by subst h; exact Boxed.new W t v

set_option maxHeartbeats 800000 in
set_option maxRecDepth 100000 in
theorem cmp_calls (A B : Option Addr) (c d : Nat) (a b : List Int) (w : World) (hla : a.length ≤ 1000000) (hlb : b.length ≤ 1000000) (hc : a.length ≤ c) (hd : b.length ≤ d)
    (ha : Kd.C (Kd.int .u64) w A a.length a) (hb : Kd.C (Kd.int .u64) w B b.length b) :
    Calls Tryz.prog 106 #[.slice A a.length c, .slice B b.length d] w fun e w' => e = .returned (.int .i64 (cmpF a b)) ∧ Below w.heap.size w w' := by
  have HRA := Aside0.mk ha
  have HRB := Aside0.mk hb
  clear ha hb
  obtain ⟨i0, hi0, _, hsz0, _⟩ := info_parts info58
  have HI0 := Aside0.mk hi0
  clear hi0 hsz0
  refine (callsIn_wide (n := 5)).1 (callsIn_of_wp_marks Tryz.func106 rfl trivial ?_ rfl)
  refine wpIn_wide.2 ?_
  simp only [Tryz.ntmps106, List.size_toArray, List.length_cons, List.length_nil, Nat.reduceAdd, Nat.reduceSub, Array.replicate_succ, Array.replicate_zero, List.push_toArray, List.append_toArray, List.nil_append, List.cons_append]
  go_wp2_with fail
  obtain ⟨wL, hwL⟩ : ∃ wL : World, wL = ((w.alloc (.cells #[.slice A a.length c] 22)).alloc (.cells #[.slice B b.length d] 22)).alloc (.cells #[.int .i64 0] 3) := ⟨_, rfl⟩
  have hsz : wL.heap.size = w.heap.size + 3 := by rw [hwL]; simp
  have hL0 : Boxed wL w.heap.size 22 (.slice A a.length c) := by rw [hwL]; exact ((boxNew rfl).alloc _).alloc _
  have hL1 : Boxed wL (w.heap.size + 1) 22 (.slice B b.length d) := by rw [hwL]; exact (boxNew (by simp)).alloc _
  have hL2 : Boxed wL (w.heap.size + 2) 3 (.int .i64 0) := by rw [hwL]; exact boxNew (by simp)
  have hLB : Below w.heap.size w wL := by rw [hwL]; exact (((Below.refl w.heap.size w).alloc (Nat.le_refl _) _).alloc (by simp) _).alloc (by simp <;> omega) _
  rw [← hwL]
  clear hwL
  refine (size_calls A c a wL hc (Kd.C_below HRA.out hLB)).mono ?_
  rintro e w' ⟨rfl, rfl⟩
  have c0 := hL0.cell
  have c1 := hL1.cell
  have c2 := hL2.cell
  have f2 := hL2.frozen
  have HLB := Aside0.mk hLB
  have HL0 := Aside0.mk hL0
  have HL1 := Aside0.mk hL1
  have HL2 := Aside0.mk hL2
  have HSZ := Aside0.mk hsz
  clear hL0 hL1 hL2 hLB hsz
  go_wp2_with fail
  refine (size_calls B d b wL hd (Kd.C_below HRB.out HLB.out)).mono ?_
  rintro e w' ⟨rfl, rfl⟩
  have hsa := sizeF_le a a.length
  have hsb := sizeF_le b b.length
  have HF := Aside0.mk (show cmpF a b = if sizeF a a.length = sizeF b b.length then cmpGo a b (sizeF a a.length) else ordF (decide (sizeF a a.length < sizeF b b.length)) from rfl)
  generalize sizeF a a.length = na at *
  generalize sizeF b b.length = nb at *
  by_cases hnm : na = nb
  · subst hnm
    rw [if_pos rfl] at HF
    have hcut := cut_to (P := Tryz.prog) 22 58 .i64 Tryz.underlying22 HI0.out A a.length c (na : Int) (by omega) (by omega) hc
    rw [Int.toNat_natCast] at hcut
    go_wp2_with fail
    refine (backward_calls A na c wL).mono ?_
    rintro e w1 ⟨rfl, rfl⟩
    go_wp2
    obtain ⟨wM, hwM⟩ : ∃ wM : World, wM = wL.alloc (.cells #[.slice A na c] 22) := ⟨_, rfl⟩
    have hsz : wM.heap.size = w.heap.size + 4 := by rw [hwM]; simp; exact HSZ.out
    have hM0 : Boxed wM w.heap.size 22 (.slice A a.length c) := by rw [hwM]; exact HL0.out.alloc _
    have hM1 : Boxed wM (w.heap.size + 1) 22 (.slice B b.length d) := by rw [hwM]; exact HL1.out.alloc _
    have hM2 : Boxed wM (w.heap.size + 2) 3 (.int .i64 0) := by rw [hwM]; exact HL2.out.alloc _
    have hM3 : Boxed wM (w.heap.size + 3) 22 (.slice A na c) := by rw [hwM]; exact boxNew HSZ.out.symm
    have hMB : Below w.heap.size w wM := by rw [hwM]; exact HLB.out.alloc (by rw [HSZ.out]; omega) _
    have hsz3 := HSZ.out
    rw [← hwM]
    clear hwM c0 c1 c2 f2
    refine OwnRf.rangeFunc_law rfl (Go.Proofs.enters_of Tryz.func129 (by kernel_rfl) rfl) ?_
    rw [hsz]
    try simp only [hsz3]
    intro rec hyield
    have HYD := Aside0.mk hyield
    clear hyield
    obtain ⟨W1, hW1⟩ : ∃ W1 : World, W1 = (wM.alloc (.deferred (some []))).alloc (.loop (rec .ready none)) := ⟨_, rfl⟩
    have hs1 : W1.heap.size = w.heap.size + 6 := by rw [hW1]; simp [hsz]
    have h1B : Below w.heap.size w W1 := by rw [hW1]; exact (hMB.alloc (by omega) _).alloc (by simp <;> omega) _
    have h13 : Boxed W1 (w.heap.size + 3) 22 (.slice A (a.take na).length c) := by rw [show (a.take na).length = na by rw [List.length_take]; omega, hW1]; exact (hM3.alloc _).alloc _
    have h1J : JC w (.slice A a.length c) (.slice B b.length d) (.loop (rec .ready none)) W1 := by
      refine ⟨by rw [hW1]; exact (hM0.alloc _).alloc _, by rw [hW1]; exact (hM1.alloc _).alloc _, by rw [hW1]; exact (hM2.alloc _).alloc _, ?_, ?_, h1B⟩
      · rw [hW1]; have := World.alloc_heap_new (wM.alloc (.deferred (some []))) (.loop (rec .ready none)); rw [World.size_alloc, hsz] at this; exact this
      · rw [hW1]; have := World.alloc_heap_new wM (.deferred (some [])); rw [hsz] at this; exact (Below.heap_alloc _ _ _ (by simp <;> omega)).trans this
    rw [← hW1]
    clear hW1 hM0 hM1 hM2 hM3 hMB hsz3
    have hit := backiter_calls w A c (a.take na) (by rw [List.length_take]; omega) (by rw [List.length_take]; omega) (Kd.C_take HRA.out (by omega)) (w.heap.size + 4 + 1) (w.heap.size + 3) W1 h1B h13 (fun i => decide (rd a i = rd b i))
      (fun _ => JC w (.slice A a.length c) (.slice B b.length d) (.loop (rec .ready none))) (fun i => JE w (ordF (decide (rd a i < rd b i))) (.loop (rec .done (some .ret))))
    refine (hit ?hY1 ?hY0 h1J).mono ?fin
    case hY1 =>
      intro i X hi hp hJ
      rw [show (a.take na).length = na by rw [List.length_take]; omega] at hi
      obtain ⟨k1, k2, k3, k4, k5, k6⟩ := hJ
      refine HYD.out _ X _ rfl k4 ?_
      refine OwnRf.region_inRound (id := 6) ?_ ?_
      · rfl
      go_wp2
      refine ⟨k4, ?_⟩
      obtain ⟨Y0, hY0⟩ : ∃ Y0 : World, Y0 = X.putObj (w.heap.size + 4 + 1) (.loop (rec .busy none)) := ⟨_, rfl⟩
      have hgX : X.grownBy Y0 (some (w.heap.size + 4 + 1)) := by rw [hY0]; exact grownBy_putObj' _ _ _
      have m1 := k1.kept hgX (by simp <;> omega)
      have m2 := k2.kept hgX (by simp <;> omega)
      have m3 := k3.kept hgX (by simp <;> omega)
      have m4 : Y0.heap[w.heap.size + 4 + 1]? = some (.loop (rec .busy none)) := by rw [hY0]; exact World.putObj_heap_same (lt_of_heap k4)
      have m5 := (hgX.block _ (lt_of_heap k5) (by simp)).trans k5
      have m6 := k6.grown hgX k6.size (fun k he => by injection he with he; omega)
      have m7 := hgX.block (w.heap.size + 3)
      have hpe : rd a i = rd b i := by simpa using hp
      obtain ⟨ad, rfl, hxa⟩ := Kd.at_int (Kd.C_below HRA.out m6) (i : Int) (by omega) (by omega)
      obtain ⟨bd, rfl, hxb⟩ := Kd.at_int (Kd.C_below HRB.out m6) (i : Int) (by omega) (by omega)
      rw [Int.toNat_natCast] at hxa hxb
      have ca := m1.cell
      have cb := m2.cell
      have hi1 : (i : Int) < a.length := by omega
      have hi2 : (i : Int) < b.length := by omega
      have hi3 : i < a.length := by omega
      have hi4 : i < b.length := by omega
      have hne : (rd a i != rd b i) = false := by rw [hpe]; simp
      have M3 := Aside0.mk m3
      have M4 := Aside0.mk m4
      have M5 := Aside0.mk m5
      have M6 := Aside0.mk m6
      have M7 := Aside0.mk m7
      have M1 := Aside0.mk m1
      have M2 := Aside0.mk m2
      have MX := Aside0.mk ((Below.refl w.heap.size X).grown hgX k6.size (fun k he => by injection he with he; omega))
      have LT := Aside0.mk (lt_of_heap k4)
      rw [← hY0]
      clear hY0 hgX m1 m2 m3 m4 m5 m6 m7 k1 k2 k3 k4 k5 k6
      refine wpIn_block ?_
      refine wpIn_seq_k (fun K9 hK9 => ?_)
      refine OwnRf.still_inRound (by kernel_rfl) (by kernel_rfl) rfl ?_
      repeat still_step
      refine wpStill_nil ?_
      refine hK9 _ _ ?_
      clear hK9 K9
      gi_wp2
      have hlt := LT.out
      refine ⟨M4.out, rfl, ⟨boxPut (show Boxed Y0.drew _ _ _ from M1.out) (by omega), boxPut (show Boxed Y0.drew _ _ _ from M2.out) (by omega), boxPut (show Boxed Y0.drew _ _ _ from M3.out) (by omega), World.putObj_heap_same (lt_of_heap (W := Y0.drew) M4.out), ?_, ?_⟩, ?_, ?_⟩
      · exact (World.putObj_heap_other (by omega)).trans M5.out
      · exact (below_drew1 M6.out).grown (grownBy_putObj' _ _ _) (below_drew1 M6.out).size (fun k he => by injection he with he; omega)
      · exact (World.putObj_heap_other (by omega)).trans (M7.out (by omega) (by simp <;> omega))
      · exact (below_drew1 MX.out).grown (grownBy_putObj' _ _ _) (below_drew1 M6.out).size (fun k he => by injection he with he; omega)
    case hY0 =>
      intro i X hi hp hJ
      rw [show (a.take na).length = na by rw [List.length_take]; omega] at hi
      obtain ⟨k1, k2, k3, k4, k5, k6⟩ := hJ
      refine HYD.out _ X _ rfl k4 ?_
      refine OwnRf.region_inRound (id := 6) ?_ ?_
      · rfl
      go_wp2
      refine ⟨k4, ?_⟩
      obtain ⟨Y0, hY0⟩ : ∃ Y0 : World, Y0 = X.putObj (w.heap.size + 4 + 1) (.loop (rec .busy none)) := ⟨_, rfl⟩
      have hgX : X.grownBy Y0 (some (w.heap.size + 4 + 1)) := by rw [hY0]; exact grownBy_putObj' _ _ _
      have m1 := k1.kept hgX (by simp <;> omega)
      have m2 := k2.kept hgX (by simp <;> omega)
      have m3 := k3.kept hgX (by simp <;> omega)
      have m4 : Y0.heap[w.heap.size + 4 + 1]? = some (.loop (rec .busy none)) := by rw [hY0]; exact World.putObj_heap_same (lt_of_heap k4)
      have m5 := (hgX.block _ (lt_of_heap k5) (by simp)).trans k5
      have m6 := k6.grown hgX k6.size (fun k he => by injection he with he; omega)
      have m7 := hgX.block (w.heap.size + 3)
      have hpe : rd a i ≠ rd b i := by simpa using hp
      obtain ⟨ad, rfl, hxa⟩ := Kd.at_int (Kd.C_below HRA.out m6) (i : Int) (by omega) (by omega)
      obtain ⟨bd, rfl, hxb⟩ := Kd.at_int (Kd.C_below HRB.out m6) (i : Int) (by omega) (by omega)
      rw [Int.toNat_natCast] at hxa hxb
      have ca := m1.cell
      have cb := m2.cell
      have hi1 : (i : Int) < a.length := by omega
      have hi2 : (i : Int) < b.length := by omega
      have hi3 : i < a.length := by omega
      have hi4 : i < b.length := by omega
      have hne : (rd a i != rd b i) = true := by simpa using hpe
      have M3 := Aside0.mk m3
      have M4 := Aside0.mk m4
      have M5 := Aside0.mk m5
      have M6 := Aside0.mk m6
      have M7 := Aside0.mk m7
      have M1 := Aside0.mk m1
      have M2 := Aside0.mk m2
      have MX := Aside0.mk ((Below.refl w.heap.size X).grown hgX k6.size (fun k he => by injection he with he; omega))
      have LT := Aside0.mk (lt_of_heap k4)
      rw [← hY0]
      have f3 := M3.out.frozen
      clear hY0 hgX m1 m2 m3 m4 m5 m6 m7 k1 k2 k3 k4 k5 k6
      refine wpIn_block ?_
      refine wpIn_seq_k (fun K9 hK9 => ?_)
      refine OwnRf.still_inRound (by kernel_rfl) (by kernel_rfl) rfl ?_
      repeat still_step
      refine wpStill_nil ?_
      refine hK9 _ _ ?_
      clear hK9 K9
      obtain ⟨Y1, hYd⟩ : ∃ Y1 : World, Y1 = Y0.drew := ⟨_, rfl⟩
      have ca1 : Y1.cell? ⟨w.heap.size, 0, none⟩ = some (.slice (some ad) a.length c) := by rw [hYd]; exact ca
      have cb1 : Y1.cell? ⟨w.heap.size + 1, 0, none⟩ = some (.slice (some bd) b.length d) := by rw [hYd]; exact cb
      have hxa1 : Y1.cell? (ad.add i) = some (.int .u64 (rd a i)) := by rw [hYd]; exact hxa
      have hxb1 : Y1.cell? (bd.add i) = some (.int .u64 (rd b i)) := by rw [hYd]; exact hxb
      have M3b := Aside0.mk (show Boxed Y1 (w.heap.size + 2) 3 (.int .i64 0) by rw [hYd]; exact M3.out)
      have M4b := Aside0.mk (show Y1.heap[w.heap.size + 4 + 1]? = some (.loop (rec .busy none)) by rw [hYd]; exact M4.out)
      have M5b := Aside0.mk (show Y1.heap[w.heap.size + 4]? = some (.deferred (some [])) by rw [hYd]; exact M5.out)
      have M6b := Aside0.mk (show Below w.heap.size w Y1 by rw [hYd]; exact below_drew1 M6.out)
      change Code.wpIn _ _ _ _ _ _ Y0.drew
      rw [← hYd]
      clear hYd ca cb hxa hxb M1 M2 M3 M4 M5 M6 M7 MX f3
      gi_wp2
      refine OwnRf.still_tail_inRound 9 (by kernel_rfl) (by kernel_rfl) rfl ?_
      simp only [List.take_succ_cons, List.take_zero, List.drop_succ_cons, List.drop_zero]
      repeat still_step
      refine wpStill_nil ?_
      obtain ⟨Y2, hYe⟩ : ∃ Y2 : World, Y2 = Y1.drew := ⟨_, rfl⟩
      have M3c := Aside0.mk (show Boxed Y2 (w.heap.size + 2) 3 (.int .i64 0) by rw [hYe]; exact M3b.out)
      have M4c := Aside0.mk (show Y2.heap[w.heap.size + 4 + 1]? = some (.loop (rec .busy none)) by rw [hYe]; exact M4b.out)
      have M5c := Aside0.mk (show Y2.heap[w.heap.size + 4]? = some (.deferred (some [])) by rw [hYe]; exact M5b.out)
      have M6c := Aside0.mk (show Below w.heap.size w Y2 by rw [hYe]; exact below_drew1 M6b.out)
      have c3 := M3c.out.cell
      have f3 := M3c.out.frozen
      change wpList _ _ _ _ _ Y1.drew
      rw [← hYe]
      clear hYe ca1 cb1 hxa1 hxb1 M3b M4b M5b M6b
      have HOC := Aside0.mk (order_calls (decide (rd a i < rd b i)) Y2)
      go_wp2_with fail
      refine HOC.out.mono ?_
      rintro e w' ⟨rfl, rfl⟩
      go_wp2
      simp only [OwnRf.onlyNormal, Exit.then]
      gi_wp2
      refine ⟨?_, rfl, boxPut (M3c.out.set _) (by omega), ?_, ?_, ?_⟩
      · rw [Below.heap_setCell _ _ _ _ (by simp <;> omega)]; exact M4c.out
      · exact World.putObj_heap_same (lt_of_heap (o := .loop (rec .busy none)) (by rw [Below.heap_setCell _ _ _ _ (by simp <;> omega)]; exact M4c.out))
      · rw [World.putObj_heap_other (by omega), Below.heap_setCell _ _ _ _ (by simp <;> omega)]; exact M5c.out
      · have hb5 := M6c.out.setCell (p := ⟨w.heap.size + 2, 0, none⟩) (by simp) (.int .i64 (ordF (decide (rd a i < rd b i))))
        exact hb5.grown (grownBy_putObj' _ _ _) hb5.size (fun k he => by injection he with he; omega)
    case fin =>
      rintro e W3 ⟨hv, (⟨hj, hall⟩ | ⟨i, hi, hpi, hall, hj⟩)⟩
      · obtain ⟨k1, k2, k3, k4, k5, k6⟩ := hj
        refine ⟨hv, .inl ⟨k4, ?_⟩⟩
        obtain ⟨W4, hW4⟩ : ∃ W4 : World, W4 = W3.putObj (w.heap.size + 4 + 1) (.loop (rec .exhausted none)) := ⟨_, rfl⟩
        have hg4 : W3.grownBy W4 (some (w.heap.size + 4 + 1)) := by rw [hW4]; exact grownBy_putObj' _ _ _
        have m3 := k3.kept hg4 (by simp <;> omega)
        have m5 := (hg4.block _ (lt_of_heap k5) (by simp)).trans k5
        have m6 := k6.grown hg4 k6.size (fun k he => by injection he with he; omega)
        have HP := Aside0.mk (show cmpF a b = 0 by
          rw [HF.out]
          refine cmpGo_all a b na (fun j hj => ?_)
          have := hall j (by rw [List.length_take]; omega)
          simpa using this)
        have M3 := Aside0.mk m3
        have M5 := Aside0.mk m5
        have M6 := Aside0.mk m6
        have c2 := m3.cell
        have f2 := m3.frozen
        rw [← hW4]
        clear hW4 hg4 m3 m5 m6 k1 k2 k3 k4 k5 k6 hv hall h1J h13 h1B HYD hit
        go_wp2
        obtain ⟨W5, hW5⟩ : ∃ W5 : World, W5 = W4.setCell ⟨w.heap.size + 2, 0, none⟩ (.int .i64 0) := ⟨_, rfl⟩
        rw [← hW5]
        have q0 : Boxed W5 (w.heap.size + 2) 3 (.int .i64 0) := by rw [hW5]; exact M3.out.set _
        have q6 : W5.heap[w.heap.size + 4]? = some (.deferred (some [])) := by rw [hW5, Below.heap_setCell _ _ _ _ (by simp <;> omega)]; exact M5.out
        have q8 : Below w.heap.size w W5 := by rw [hW5]; exact M6.out.setCell (p := ⟨w.heap.size + 2, 0, none⟩) (by simp) _
        have cc0 := (boxPut (o := .deferred none) q0 (show w.heap.size + 2 ≠ w.heap.size + 4 by omega)).cell
        refine ⟨by simp, .inl ⟨_, _, rfl, run_takeDeferred q6, ?_⟩⟩
        refine ⟨.int .i64 0, by simp [results, Tryz.results90, go_sem, cc0], by rw [HP.out], ?_⟩
        exact q8.grown (grownBy_putObj' _ _ _) q8.size (fun k he => by injection he with he; omega)
      · obtain ⟨k3, k4, k5, k6⟩ := hj
        refine ⟨hv, .inr ⟨k4, ?_⟩⟩
        obtain ⟨W4, hW4⟩ : ∃ W4 : World, W4 = W3.putObj (w.heap.size + 4 + 1) (.loop (rec .exhausted (some .ret))) := ⟨_, rfl⟩
        rw [← hW4]
        have hg4 : W3.grownBy W4 (some (w.heap.size + 4 + 1)) := by rw [hW4]; exact grownBy_putObj' _ _ _
        have m3 := k3.kept hg4 (by simp <;> omega)
        have m5 := (hg4.block _ (lt_of_heap k5) (by simp)).trans k5
        have m6 := k6.grown hg4 k6.size (fun k he => by injection he with he; omega)
        have htl : (a.take na).length = na := by rw [List.length_take]; omega
        rw [htl] at hi
        have HP : cmpF a b = ordF (decide (rd a i < rd b i)) := by
          rw [HF.out]
          refine cmpGo_at a b i (by simpa using hpi) na hi (fun j h1 h2 => ?_)
          have := hall j h1 (by rw [htl]; exact h2)
          simpa using this
        have c0 := (boxPut (o := .deferred none) m3 (show w.heap.size + 2 ≠ w.heap.size + 4 by omega)).cell
        refine ⟨by simp, .inl ⟨_, _, rfl, run_takeDeferred m5, ?_⟩⟩
        refine ⟨.int .i64 (ordF (decide (rd a i < rd b i))), by simp [results, Tryz.results90, go_sem, c0], by rw [HP], ?_⟩
        exact m6.grown (grownBy_putObj' _ _ _) m6.size (fun k he => by injection he with he; omega)
  · rw [if_neg hnm] at HF
    have b1 : ((na : Int) != (nb : Int)) = true := by simp only [bne_iff_ne]; omega
    have b2 : (na != nb) = true := by simpa using hnm
    go_wp2_with fail
    refine (order_calls _ wL).mono ?_
    rintro e w1 ⟨rfl, rfl⟩
    go_wp2
    have q0 := HL2.out.set (.int .i64 (ordF (decide (na < nb))))
    have cc0 := q0.cell
    refine ⟨.int .i64 (ordF (decide (na < nb))), by simp [results, Tryz.results90, go_sem, cc0], by rw [HF.out], ?_⟩
    exact HLB.out.setCell (p := ⟨w.heap.size + 2, 0, none⟩) (by simp) _
end Go.Proofs.YtmbdbkcifmkpbaaGreatDoor.OwnA
end
section
set_option linter.unusedVariables false
set_option linter.unusedSimpArgs false
namespace Go.Proofs.YtmbdbkcifmkpbaaGreatDoor.OwnA
open Go.RowKit Go.Proofs.YtmbdbkcifmkpbaaGreatDoorW.PrintWords Go.Proofs.YtmbdbkcifmkpbaaGreatDoorW.PrintLast Go.Proofs.YtmbdbkcifmkpbaaGreatDoorW.PrintMore
attribute [local go_sem] max2_mx min2_int max_two min_two max_three min_three max_four min_four

/-- a borrow -/
def borF (x y : Int) : Int := if x < y then 1 else 0
theorem borF_bd (x y : Int) : 0 ≤ borF x y ∧ borF x y ≤ 1 := by unfold borF; split <;> omega
theorem sub64b {x y b : Int} (x0 : 0 ≤ x) (y0 : 0 ≤ y) (b0 : 0 ≤ b) (b1 : b ≤ 1) (y1 : y < 18446744073709551616) (w : World) :
    (callFunc 127 #[.int .u64 x, .int .u64 y, .int .u64 b]).run Tryz.prog w = .ok (.value (.tuple #[.int .u64 ((x - y - b) % 18446744073709551616), .int .u64 (borF x (y + b))])) w := sub64 x0 y0 b0 b1 y1 w
def subL (a b : List Int) : Nat → Nat → Int → List Int
  | _, 0, _ => []
  | i, n + 1, c => ((rd a i - atF b i - c) % 18446744073709551616) :: subL a b (i + 1) n (borF (rd a i) (atF b i + c))
def subG (a b : List Int) : List Int := normF (subL a b 0 a.length 0)
def subF (a b : List Int) : List Int := if cmpF a b < 0 then subG b a else subG a b
theorem subL_len (a b : List Int) : ∀ (n i : Nat) (c : Int), (subL a b i n c).length = n
  | 0, _, _ => rfl
  | n + 1, i, c => by rw [subL, List.length_cons, subL_len a b n]
theorem subL_u64 (a b : List Int) : ∀ (n i : Nat) (c : Int), u64s (subL a b i n c)
  | 0, _, _ => fun y hy => by simp [subL] at hy
  | n + 1, i, c => fun y hy => by
    rw [subL, List.mem_cons] at hy
    rcases hy with rfl | hy
    · omega
    · exact subL_u64 a b n _ _ y hy

/-- the number in a cell -/
def cellN (X : World) (g i : Nat) : Int := match X.cell? ⟨g, i, none⟩ with | some (.int _ n) => n | _ => 0
theorem cellN_of {X : World} {g i : Nat} {n : Int} (h : X.cell? ⟨g, i, none⟩ = some (.int .u64 n)) : X.cell? ⟨g, i, none⟩ = some (.int .u64 (cellN X g i)) := by
  unfold cellN
  rw [h]

set_option maxHeartbeats 1600000 in
set_option maxRecDepth 100000 in
theorem sub_calls (A B : Option Addr) (c d : Nat) (a b : List Int) (w : World) (hla : a.length ≤ 100000) (hlb : b.length ≤ 100000) (hc : a.length ≤ c) (hd : b.length ≤ d) (hua : u64s a) (hub : u64s b)
    (ha : Kd.C (Kd.int .u64) w A a.length a) (hb : Kd.C (Kd.int .u64) w B b.length b) :
    Calls Tryz.prog 117 #[.slice A a.length c, .slice B b.length d] w fun e w' => ∃ v, e = .returned v ∧ Kd.R (Kd.int .u64) 58 w' w.heap.size (fun _ => True) v (subF a b) ∧ Below w.heap.size w w' := by
  have HRA := Aside0.mk ha
  have HRB := Aside0.mk hb
  have HUA := Aside0.mk hua
  have HUB := Aside0.mk hub
  clear ha hb hua hub
  obtain ⟨i0, hi0, _, hsz0, _⟩ := info_parts info58
  have HI0 := Aside0.mk hi0
  clear hi0 hsz0
  go_enter Tryz.func117, Tryz.ntmps117
  go_wp2_with fail
  refine (cmp_calls A B c d a b _ (by omega) (by omega) hc hd HRA.out HRB.out).mono ?_
  rintro e w1 ⟨rfl, hB⟩
  have HB := Aside0.mk hB
  clear hB
  by_cases hlt : cmpF a b < 0
  · have b0 : decide (cmpF a b < 0) = true := decide_eq_true hlt
    have HF := Aside0.mk (show subF a b = subG b a by unfold subF; rw [if_pos hlt])
    obtain ⟨m, hm⟩ : ∃ m : Nat, m = b.length := ⟨_, rfl⟩
    have hm1 : m ≤ 100000 := by omega
    have HRX := Aside0.mk (show Kd.C (Kd.int .u64) w B m b by rw [hm]; exact HRB.out)
    rw [show b.length = m from hm.symm]
    have hmx : b.length = m := hm.symm
    have HM := Aside0.mk hm
    have HCY := Aside0.mk hc
    clear hm hmx hc hd b0
    go_wp2_with (first | ((with_reducible refine gate_dst (N := 16) rfl ?_); refine Kd.R_make (Kd.int .u64) (w0 := w1) _ 58 rfl (N := 16) rfl 22 _ _ rfl (m : Int) ?hx1 ?hx2 Tryz.underlying22 (.int .u64 0) 8 info58 rfl (by decide) (by omega) 0 (ok := fun _ => True) (okp := fun _ => True) rfl (fun _ hk => hk) trivial (by omega) (by omega) (Below.refl _ _) (Nat.le_refl _) ?_; (case hx1 => first | rfl | (simp; done)); (case hx2 => first | rfl | (simp; done)); intro v0 w2 ho hb hg_ hnew_; rw [Int.toNat_natCast] at ho; clear hg_ hnew_; have HO1 := Aside0.mk (Kd.R_lower ho (below_size HB.out)); have HB1 := Aside0.mk (below_step HB.out hb); obtain ⟨A3, c3, e3⟩ := Kd.R_slice ho; subst e3; rw [List.length_replicate] at HO1 ⊢; clear HB ho hb; have HO := HO1; have HB := HB1; clear HO1 HB1))
    have HL0 := Aside0.mk (show (List.replicate m (0 : Int)).length = m by simp)
    have HFG := Aside0.mk (show subG b a = normF (subL b a 0 m 0) by unfold subG; rw [← HM.out])
    obtain ⟨G, hGE⟩ : ∃ G, subL b a 0 m 0 = G := ⟨_, rfl⟩
    rw [hGE] at HFG
    have HGE := Aside0.mk hGE
    clear hGE
    generalize List.replicate m (0 : Int) = L0 at HO HL0
    go_loopw [6, 7, 19] (fun v6 v7 v19 wr => ∃ (i : Nat) (cc : Int) (L : List Int), i ≤ m ∧ 0 ≤ cc ∧ cc ≤ 1 ∧ v6 = .int .u64 cc ∧ v19 = .int .i64 i ∧ Aside0 (L.length = m) ∧ Aside0 (L.take i ++ subL b a i (m - i) cc = G) ∧ Aside0 (Kd.R (Kd.int .u64) 58 wr w.heap.size (fun _ => True) (.slice A3 m c3) L) ∧ Aside0 (Below w.heap.size w wr)) (fun _ _ v19 _ => m - (intOf v19).toNat)
    case atStart => exact ⟨0, 0, L0, Nat.zero_le _, by omega, by omega, rfl, rfl, HL0, ⟨by rw [List.take_zero, List.nil_append, Nat.sub_zero]; exact HGE.out⟩, HO, HB⟩
    case round =>
      clear HO HB HL0
      obtain ⟨i, cc, L, hi, cc0, cc1, rfl, rfl, HL, HS, HO, HB⟩ := hrel
      by_cases hlt : i < m
      · have b1 : decide (i < m) = true := decide_eq_true hlt
        have b2 : decide ((i : Int) < (m : Int)) = true := decide_eq_true (by omega)
        have hii : (i : Int) < (m : Int) := by omega
        obtain ⟨g, cap, eg, hg, _, _⟩ := Kd.R_form HO.out (by rw [HL.out]; omega)
        injection eg with e1 e2 e3
        subst e1
        subst e3
        have HG := Aside0.mk hg
        clear hg e2
        obtain ⟨hz, hf⟩ := Kd.R_celln 0 HO.out (i : Int) (by omega) (by omega)
        replace hz : wr.cell? ⟨g, i, none⟩ = some (.int .u64 (rd L i)) := hz
        replace hf : wr.frozen? ⟨g, i, none⟩ = false := hf
        obtain ⟨ad, ead, hx⟩ := Kd.at_int HRX.out (i : Int) (by omega) (by omega)
        subst ead
        rw [Int.toNat_natCast] at hx
        have HAT := Aside0.mk (fun (Xw : World) (hX : Below w.heap.size w Xw) => at_calls A c a i Xw HCY.out (Kd.C_below HRA.out hX) (by omega))
        obtain ⟨x0, x1⟩ := u64s_rd HUB.out i
        obtain ⟨y0, y1⟩ := atF_bd HUA.out i
        have HE := Aside0.mk (show L.take i ++ ((rd b i - atF a i - cc) % 18446744073709551616 :: subL b a (i + 1) (m - i - 1) (borF (rd b i) (atF a i + cc))) = G by
          have h := HS.out
          rw [show m - i = (m - i - 1) + 1 by omega, subL] at h
          exact h)
        generalize rd b i = xx at *
        generalize atF a i = yy at *
        have hsub := sub64b x0 y0 cc0 cc1 y1
        have HBO := Aside0.mk (borF_bd xx (yy + cc))
        generalize borF xx (yy + cc) = bo at *
        have KS := Aside0.mk (show ∀ Xw, Aside0 (∃ L', Kd.R (Kd.int .u64) 58 Xw w.heap.size (fun _ => True) (.slice (some ⟨g, 0, none⟩) m c3) L') → Below w.heap.size w Xw → (Xw.cell? (ad.add i) = some (.int .u64 xx) ∧ Xw.cell? ⟨g, i, none⟩ = some (.int .u64 (cellN Xw g i)) ∧ Xw.frozen? ⟨g, i, none⟩ = false ∧ Below w.heap.size w Xw ∧ Aside0 (∃ L', Kd.R (Kd.int .u64) 58 Xw w.heap.size (fun _ => True) (.slice (some ⟨g, 0, none⟩) m c3) L')) from fun Xw hR h => ⟨(h.cell (World.block_lt_of_cell? w _ hx)).trans hx, by obtain ⟨L', hR'⟩ := hR.out; exact cellN_of (Kd.R_celln 0 hR' (i : Int) (by omega) (by omega)).1, by obtain ⟨L', hR'⟩ := hR.out; exact (Kd.R_celln 0 hR' (i : Int) (by omega) (by omega)).2, h, hR⟩)
        have SS := Aside0.mk (show ∀ (Xw : World) (v : Int), Below w.heap.size w Xw → Below w.heap.size w (Xw.setCell ⟨g, i, none⟩ (.int .u64 v)) from fun Xw v h => h.setCell HG.out _)
        have SR := Aside0.mk (show ∀ (Xw : World) (v : Int), Aside0 (∃ L', Kd.R (Kd.int .u64) 58 Xw w.heap.size (fun _ => True) (.slice (some ⟨g, 0, none⟩) m c3) L') → Aside0 (∃ L', Kd.R (Kd.int .u64) 58 (Xw.setCell ⟨g, i, none⟩ (.int .u64 v)) w.heap.size (fun _ => True) (.slice (some ⟨g, 0, none⟩) m c3) L') from fun Xw v h => by obtain ⟨L', hR'⟩ := h.out; exact ⟨_, (Kd.R_putg hR' (i : Int) v).1⟩)
        have SD := Aside0.mk (show Aside0 (∃ L', Kd.R (Kd.int .u64) 58 wr.drew w.heap.size (fun _ => True) (.slice (some ⟨g, 0, none⟩) m c3) L') from ⟨_, Kd.R_drew HO.out⟩)
        have S0 := Aside0.mk (show Aside0 (∃ L', Kd.R (Kd.int .u64) 58 wr w.heap.size (fun _ => True) (.slice (some ⟨g, 0, none⟩) m c3) L') from ⟨_, HO.out⟩)
        have SX := Aside0.mk (show ∀ (Xw : World), Aside0 (∃ L', Kd.R (Kd.int .u64) 58 Xw w.heap.size (fun _ => True) (.slice (some ⟨g, 0, none⟩) m c3) L') → Aside0 (∃ L', Kd.R (Kd.int .u64) 58 Xw.drew w.heap.size (fun _ => True) (.slice (some ⟨g, 0, none⟩) m c3) L') from fun Xw h => by obtain ⟨L', hR'⟩ := h.out; exact ⟨_, Kd.R_drew hR'⟩)
        clear hz hf hx
        go_wp2
        go_region_held3 (fun Xw => Xw.cell? (ad.add i) = some (.int .u64 xx) ∧ Xw.cell? ⟨g, i, none⟩ = some (.int .u64 (cellN Xw g i)) ∧ Xw.frozen? ⟨g, i, none⟩ = false ∧ Below w.heap.size w Xw ∧ Aside0 (∃ L', Kd.R (Kd.int .u64) 58 Xw w.heap.size (fun _ => True) (.slice (some ⟨g, 0, none⟩) m c3) L'))
          (first
            | with_reducible exact KS.out _ SD.out (HB.out.drew)
            | (go_split_ands; with_reducible exact KS.out _ (by assumption) (by assumption))
            | (go_split_ands; with_reducible exact KS.out _ (SR.out _ _ (by assumption)) (SS.out _ _ (by assumption)))
            | with_reducible exact KS.out _ (SX.out _ (SR.out _ _ S0.out)) ((SS.out _ _ HB.out).drew))
          (first
            | (go_split_ands
               go_at_call 125
               refine (HAT.out _ (by assumption)).mono ?_
               rintro e w' ⟨rfl, rfl⟩))
        go_wp2
        go_roundw
        case rel => exact ⟨i + 1, bo, L.set i ((xx - yy - cc) % 18446744073709551616), by omega, HBO.out.1, HBO.out.2, rfl, by first | rfl | go_num, ⟨by rw [List.length_set]; exact HL.out⟩, ⟨by rw [set_take (by rw [HL.out]; exact hlt), List.append_assoc, List.singleton_append, show m - (i + 1) = m - i - 1 by omega]; exact HE.out⟩, ⟨Kd.R_drew (Kd.R_putg HO.out (i : Int) _).1⟩, ⟨below_drew1 (below_set HB.out HG.out)⟩⟩
        case measure => (simp [intOf] <;> omega)
      · obtain rfl : i = m := by omega
        have b1 : decide (i < i) = false := by simp
        have b2 : decide ((i : Int) < (i : Int)) = false := by simp
        have hLG : L = G := by
          have h := HS.out
          rw [Nat.sub_self, subL, List.append_nil, List.take_of_length_le (by rw [HL.out]; exact Nat.le_refl _)] at h
          exact h
        obtain ⟨hx_, hcap, hC⟩ := Kd.R_reads' HO.out
        clear hx_
        have hsz := size_calls A3 c3 L wr (by rw [HL.out]; exact hcap) hC
        have hsl := sizeF_le L L.length
        rw [HL.out] at hsz hsl
        have hcut := cut_to (P := Tryz.prog) 22 58 .i64 Tryz.underlying22 HI0.out A3 i c3 ((sizeF L i : Nat) : Int) (by omega) (by omega) hcap
        rw [Int.toNat_natCast] at hcut
        have HSZ := Aside0.mk hsz
        have HR := Aside0.mk (show Kd.R (Kd.int .u64) 58 wr w.heap.size (fun _ => True) (.slice A3 (sizeF L i) c3) (subF a b) by
          have h := Kd.R_take HO.out (m := sizeF L i) (by rw [HL.out]; exact hsl)
          have e : subF a b = L.take (sizeF L i) := by
            rw [HF.out, HFG.out, ← hLG]
            unfold normF
            rw [HL.out]
          rw [e]
          exact h)
        clear hC hsz hcap hLG
        go_wp2_with (first | (go_at_call 119; (with_reducible refine HSZ.out.mono ?_); rintro e w' ⟨rfl, rfl⟩))
        go_ret
        exact ⟨_, rfl, HR.out, HB.out⟩
  · have b0 : decide (cmpF a b < 0) = false := decide_eq_false hlt
    have HF := Aside0.mk (show subF a b = subG a b by unfold subF; rw [if_neg hlt])
    obtain ⟨m, hm⟩ : ∃ m : Nat, m = a.length := ⟨_, rfl⟩
    have hm1 : m ≤ 100000 := by omega
    have HRX := Aside0.mk (show Kd.C (Kd.int .u64) w A m a by rw [hm]; exact HRA.out)
    rw [show a.length = m from hm.symm]
    have hmx : a.length = m := hm.symm
    have HM := Aside0.mk hm
    have HCY := Aside0.mk hd
    clear hm hmx hc hd b0
    go_wp2_with (first | ((with_reducible refine gate_dst (N := 16) rfl ?_); refine Kd.R_make (Kd.int .u64) (w0 := w1) _ 58 rfl (N := 16) rfl 22 _ _ rfl (m : Int) ?hx1 ?hx2 Tryz.underlying22 (.int .u64 0) 8 info58 rfl (by decide) (by omega) 0 (ok := fun _ => True) (okp := fun _ => True) rfl (fun _ hk => hk) trivial (by omega) (by omega) (Below.refl _ _) (Nat.le_refl _) ?_; (case hx1 => first | rfl | (simp; done)); (case hx2 => first | rfl | (simp; done)); intro v0 w2 ho hb hg_ hnew_; rw [Int.toNat_natCast] at ho; clear hg_ hnew_; have HO1 := Aside0.mk (Kd.R_lower ho (below_size HB.out)); have HB1 := Aside0.mk (below_step HB.out hb); obtain ⟨A3, c3, e3⟩ := Kd.R_slice ho; subst e3; rw [List.length_replicate] at HO1 ⊢; clear HB ho hb; have HO := HO1; have HB := HB1; clear HO1 HB1))
    have HL0 := Aside0.mk (show (List.replicate m (0 : Int)).length = m by simp)
    have HFG := Aside0.mk (show subG a b = normF (subL a b 0 m 0) by unfold subG; rw [← HM.out])
    obtain ⟨G, hGE⟩ : ∃ G, subL a b 0 m 0 = G := ⟨_, rfl⟩
    rw [hGE] at HFG
    have HGE := Aside0.mk hGE
    clear hGE
    generalize List.replicate m (0 : Int) = L0 at HO HL0
    go_loopw [6, 7, 19] (fun v6 v7 v19 wr => ∃ (i : Nat) (cc : Int) (L : List Int), i ≤ m ∧ 0 ≤ cc ∧ cc ≤ 1 ∧ v6 = .int .u64 cc ∧ v19 = .int .i64 i ∧ Aside0 (L.length = m) ∧ Aside0 (L.take i ++ subL a b i (m - i) cc = G) ∧ Aside0 (Kd.R (Kd.int .u64) 58 wr w.heap.size (fun _ => True) (.slice A3 m c3) L) ∧ Aside0 (Below w.heap.size w wr)) (fun _ _ v19 _ => m - (intOf v19).toNat)
    case atStart => exact ⟨0, 0, L0, Nat.zero_le _, by omega, by omega, rfl, rfl, HL0, ⟨by rw [List.take_zero, List.nil_append, Nat.sub_zero]; exact HGE.out⟩, HO, HB⟩
    case round =>
      clear HO HB HL0
      obtain ⟨i, cc, L, hi, cc0, cc1, rfl, rfl, HL, HS, HO, HB⟩ := hrel
      by_cases hlt : i < m
      · have b1 : decide (i < m) = true := decide_eq_true hlt
        have b2 : decide ((i : Int) < (m : Int)) = true := decide_eq_true (by omega)
        have hii : (i : Int) < (m : Int) := by omega
        obtain ⟨g, cap, eg, hg, _, _⟩ := Kd.R_form HO.out (by rw [HL.out]; omega)
        injection eg with e1 e2 e3
        subst e1
        subst e3
        have HG := Aside0.mk hg
        clear hg e2
        obtain ⟨hz, hf⟩ := Kd.R_celln 0 HO.out (i : Int) (by omega) (by omega)
        replace hz : wr.cell? ⟨g, i, none⟩ = some (.int .u64 (rd L i)) := hz
        replace hf : wr.frozen? ⟨g, i, none⟩ = false := hf
        obtain ⟨ad, ead, hx⟩ := Kd.at_int HRX.out (i : Int) (by omega) (by omega)
        subst ead
        rw [Int.toNat_natCast] at hx
        have HAT := Aside0.mk (fun (Xw : World) (hX : Below w.heap.size w Xw) => at_calls B d b i Xw HCY.out (Kd.C_below HRB.out hX) (by omega))
        obtain ⟨x0, x1⟩ := u64s_rd HUA.out i
        obtain ⟨y0, y1⟩ := atF_bd HUB.out i
        have HE := Aside0.mk (show L.take i ++ ((rd a i - atF b i - cc) % 18446744073709551616 :: subL a b (i + 1) (m - i - 1) (borF (rd a i) (atF b i + cc))) = G by
          have h := HS.out
          rw [show m - i = (m - i - 1) + 1 by omega, subL] at h
          exact h)
        generalize rd a i = xx at *
        generalize atF b i = yy at *
        have hsub := sub64b x0 y0 cc0 cc1 y1
        have HBO := Aside0.mk (borF_bd xx (yy + cc))
        generalize borF xx (yy + cc) = bo at *
        have KS := Aside0.mk (show ∀ Xw, Aside0 (∃ L', Kd.R (Kd.int .u64) 58 Xw w.heap.size (fun _ => True) (.slice (some ⟨g, 0, none⟩) m c3) L') → Below w.heap.size w Xw → (Xw.cell? (ad.add i) = some (.int .u64 xx) ∧ Xw.cell? ⟨g, i, none⟩ = some (.int .u64 (cellN Xw g i)) ∧ Xw.frozen? ⟨g, i, none⟩ = false ∧ Below w.heap.size w Xw ∧ Aside0 (∃ L', Kd.R (Kd.int .u64) 58 Xw w.heap.size (fun _ => True) (.slice (some ⟨g, 0, none⟩) m c3) L')) from fun Xw hR h => ⟨(h.cell (World.block_lt_of_cell? w _ hx)).trans hx, by obtain ⟨L', hR'⟩ := hR.out; exact cellN_of (Kd.R_celln 0 hR' (i : Int) (by omega) (by omega)).1, by obtain ⟨L', hR'⟩ := hR.out; exact (Kd.R_celln 0 hR' (i : Int) (by omega) (by omega)).2, h, hR⟩)
        have SS := Aside0.mk (show ∀ (Xw : World) (v : Int), Below w.heap.size w Xw → Below w.heap.size w (Xw.setCell ⟨g, i, none⟩ (.int .u64 v)) from fun Xw v h => h.setCell HG.out _)
        have SR := Aside0.mk (show ∀ (Xw : World) (v : Int), Aside0 (∃ L', Kd.R (Kd.int .u64) 58 Xw w.heap.size (fun _ => True) (.slice (some ⟨g, 0, none⟩) m c3) L') → Aside0 (∃ L', Kd.R (Kd.int .u64) 58 (Xw.setCell ⟨g, i, none⟩ (.int .u64 v)) w.heap.size (fun _ => True) (.slice (some ⟨g, 0, none⟩) m c3) L') from fun Xw v h => by obtain ⟨L', hR'⟩ := h.out; exact ⟨_, (Kd.R_putg hR' (i : Int) v).1⟩)
        have SD := Aside0.mk (show Aside0 (∃ L', Kd.R (Kd.int .u64) 58 wr.drew w.heap.size (fun _ => True) (.slice (some ⟨g, 0, none⟩) m c3) L') from ⟨_, Kd.R_drew HO.out⟩)
        have S0 := Aside0.mk (show Aside0 (∃ L', Kd.R (Kd.int .u64) 58 wr w.heap.size (fun _ => True) (.slice (some ⟨g, 0, none⟩) m c3) L') from ⟨_, HO.out⟩)
        have SX := Aside0.mk (show ∀ (Xw : World), Aside0 (∃ L', Kd.R (Kd.int .u64) 58 Xw w.heap.size (fun _ => True) (.slice (some ⟨g, 0, none⟩) m c3) L') → Aside0 (∃ L', Kd.R (Kd.int .u64) 58 Xw.drew w.heap.size (fun _ => True) (.slice (some ⟨g, 0, none⟩) m c3) L') from fun Xw h => by obtain ⟨L', hR'⟩ := h.out; exact ⟨_, Kd.R_drew hR'⟩)
        clear hz hf hx
        go_wp2
        go_region_held3 (fun Xw => Xw.cell? (ad.add i) = some (.int .u64 xx) ∧ Xw.cell? ⟨g, i, none⟩ = some (.int .u64 (cellN Xw g i)) ∧ Xw.frozen? ⟨g, i, none⟩ = false ∧ Below w.heap.size w Xw ∧ Aside0 (∃ L', Kd.R (Kd.int .u64) 58 Xw w.heap.size (fun _ => True) (.slice (some ⟨g, 0, none⟩) m c3) L'))
          (first
            | with_reducible exact KS.out _ SD.out (HB.out.drew)
            | (go_split_ands; with_reducible exact KS.out _ (by assumption) (by assumption))
            | (go_split_ands; with_reducible exact KS.out _ (SR.out _ _ (by assumption)) (SS.out _ _ (by assumption)))
            | with_reducible exact KS.out _ (SX.out _ (SR.out _ _ S0.out)) ((SS.out _ _ HB.out).drew))
          (first
            | (go_split_ands
               go_at_call 125
               refine (HAT.out _ (by assumption)).mono ?_
               rintro e w' ⟨rfl, rfl⟩))
        go_wp2
        go_roundw
        case rel => exact ⟨i + 1, bo, L.set i ((xx - yy - cc) % 18446744073709551616), by omega, HBO.out.1, HBO.out.2, rfl, by first | rfl | go_num, ⟨by rw [List.length_set]; exact HL.out⟩, ⟨by rw [set_take (by rw [HL.out]; exact hlt), List.append_assoc, List.singleton_append, show m - (i + 1) = m - i - 1 by omega]; exact HE.out⟩, ⟨Kd.R_drew (Kd.R_putg HO.out (i : Int) _).1⟩, ⟨below_drew1 (below_set HB.out HG.out)⟩⟩
        case measure => (simp [intOf] <;> omega)
      · obtain rfl : i = m := by omega
        have b1 : decide (i < i) = false := by simp
        have b2 : decide ((i : Int) < (i : Int)) = false := by simp
        have hLG : L = G := by
          have h := HS.out
          rw [Nat.sub_self, subL, List.append_nil, List.take_of_length_le (by rw [HL.out]; exact Nat.le_refl _)] at h
          exact h
        obtain ⟨hx_, hcap, hC⟩ := Kd.R_reads' HO.out
        clear hx_
        have hsz := size_calls A3 c3 L wr (by rw [HL.out]; exact hcap) hC
        have hsl := sizeF_le L L.length
        rw [HL.out] at hsz hsl
        have hcut := cut_to (P := Tryz.prog) 22 58 .i64 Tryz.underlying22 HI0.out A3 i c3 ((sizeF L i : Nat) : Int) (by omega) (by omega) hcap
        rw [Int.toNat_natCast] at hcut
        have HSZ := Aside0.mk hsz
        have HR := Aside0.mk (show Kd.R (Kd.int .u64) 58 wr w.heap.size (fun _ => True) (.slice A3 (sizeF L i) c3) (subF a b) by
          have h := Kd.R_take HO.out (m := sizeF L i) (by rw [HL.out]; exact hsl)
          have e : subF a b = L.take (sizeF L i) := by
            rw [HF.out, HFG.out, ← hLG]
            unfold normF
            rw [HL.out]
          rw [e]
          exact h)
        clear hC hsz hcap hLG
        go_wp2_with (first | (go_at_call 119; (with_reducible refine HSZ.out.mono ?_); rintro e w' ⟨rfl, rfl⟩))
        go_ret
        exact ⟨_, rfl, HR.out, HB.out⟩
end Go.Proofs.YtmbdbkcifmkpbaaGreatDoor.OwnA
end
section
set_option linter.unusedVariables false
set_option linter.unusedSimpArgs false
namespace Go.Proofs.YtmbdbkcifmkpbaaGreatDoor.OwnA
open Go.RowKit Go.Proofs.YtmbdbkcifmkpbaaGreatDoorW.PrintWords Go.Proofs.YtmbdbkcifmkpbaaGreatDoorW.PrintLast Go.Proofs.YtmbdbkcifmkpbaaGreatDoorW.PrintMore
attribute [local go_sem] max2_mx min2_int max_two min_two max_three min_three max_four min_four

set_option maxRecDepth 100000 in
theorem tab_bd : ∀ (n : Nat) (hn : n < Lib.len8tab.size), 1 ≤ n → 1 ≤ (Lib.len8tab[n]'hn).toNat ∧ (Lib.len8tab[n]'hn).toNat ≤ 8 := by
  have h : ∀ i : Fin 256, 1 ≤ i.val → 1 ≤ (Lib.len8tab[i.val]!).toNat ∧ (Lib.len8tab[i.val]!).toNat ≤ 8 := by decide +kernel
  intro n hn h1
  have hs : Lib.len8tab.size = 256 := by decide +kernel
  have := h ⟨n, by omega⟩ h1
  rwa [getElem!_pos Lib.len8tab n hn] at this
set_option maxRecDepth 100000 in
theorem tab_size : (Lib.len8tab.size : Int) = 256 := by
  have hs : Lib.len8tab.size = 256 := by decide +kernel
  omega
theorem len_fin (c : Int) (h0 : 0 ≤ c) (h1 : c ≤ 56) (y : Int) (y0 : 1 ≤ y) (hn : y.toNat < Lib.len8tab.size) : 1 ≤ wrap64 (c + wrap64 ((Lib.len8tab[y.toNat]'hn).toNat : Int)) ∧ wrap64 (c + wrap64 ((Lib.len8tab[y.toNat]'hn).toNat : Int)) ≤ 64 := by
  obtain ⟨a, b⟩ := tab_bd y.toNat hn (by omega)
  generalize (Lib.len8tab[y.toNat]'hn).toNat = t at *
  unfold wrap64
  omega
theorem len_fin0 (y : Int) (y0 : 1 ≤ y) (hn : y.toNat < Lib.len8tab.size) : 1 ≤ wrap64 (wrap64 ((Lib.len8tab[y.toNat]'hn).toNat : Int)) ∧ wrap64 (wrap64 ((Lib.len8tab[y.toNat]'hn).toNat : Int)) ≤ 64 := by
  obtain ⟨a, b⟩ := tab_bd y.toNat hn (by omega)
  generalize (Lib.len8tab[y.toNat]'hn).toNat = t at *
  unfold wrap64
  omega

set_option maxHeartbeats 3200000 in
set_option maxRecDepth 100000 in
theorem len64_calls (x : Int) (w : World) (h0 : 1 ≤ x) (h1 : x < 18446744073709551616) : Calls Tryz.prog 120 #[.int .u64 x] w fun e w' => ∃ k : Int, e = .returned (.int .i64 k) ∧ (1 ≤ k ∧ k ≤ 64) ∧ w' = w := by
  by_cases c1 : 4294967296 ≤ x
  · by_cases c2 : 65536 ≤ x / 4294967296
    · by_cases c3 : 256 ≤ x / 4294967296 / 65536
      · have hy : 1 ≤ x / 4294967296 / 65536 / 256 := by omega
        have hz : x / 4294967296 / 65536 / 256 < 256 := by omega
        have hT : 0 ≤ x / 4294967296 / 65536 / 256 ∧ x / 4294967296 / 65536 / 256 < (Lib.len8tab.size : Int) := ⟨by omega, by rw [tab_size]; omega⟩
        go_enter Tryz.func120, Tryz.ntmps120
        go_wp2
        go_ret
        exact ⟨_, rfl, len_fin 56 (by omega) (by omega) _ hy _, rfl⟩
      · have hy : 1 ≤ x / 4294967296 / 65536 := by omega
        have hz : x / 4294967296 / 65536 < 256 := by omega
        have hT : 0 ≤ x / 4294967296 / 65536 ∧ x / 4294967296 / 65536 < (Lib.len8tab.size : Int) := ⟨by omega, by rw [tab_size]; omega⟩
        go_enter Tryz.func120, Tryz.ntmps120
        go_wp2
        go_ret
        exact ⟨_, rfl, len_fin 48 (by omega) (by omega) _ hy _, rfl⟩
    · by_cases c3 : 256 ≤ x / 4294967296
      · have hy : 1 ≤ x / 4294967296 / 256 := by omega
        have hz : x / 4294967296 / 256 < 256 := by omega
        have hT : 0 ≤ x / 4294967296 / 256 ∧ x / 4294967296 / 256 < (Lib.len8tab.size : Int) := ⟨by omega, by rw [tab_size]; omega⟩
        go_enter Tryz.func120, Tryz.ntmps120
        go_wp2
        go_ret
        exact ⟨_, rfl, len_fin 40 (by omega) (by omega) _ hy _, rfl⟩
      · have hy : 1 ≤ x / 4294967296 := by omega
        have hz : x / 4294967296 < 256 := by omega
        have hT : 0 ≤ x / 4294967296 ∧ x / 4294967296 < (Lib.len8tab.size : Int) := ⟨by omega, by rw [tab_size]; omega⟩
        go_enter Tryz.func120, Tryz.ntmps120
        go_wp2
        go_ret
        exact ⟨_, rfl, len_fin 32 (by omega) (by omega) _ hy _, rfl⟩
  · by_cases c2 : 65536 ≤ x
    · by_cases c3 : 256 ≤ x / 65536
      · have hy : 1 ≤ x / 65536 / 256 := by omega
        have hz : x / 65536 / 256 < 256 := by omega
        have hT : 0 ≤ x / 65536 / 256 ∧ x / 65536 / 256 < (Lib.len8tab.size : Int) := ⟨by omega, by rw [tab_size]; omega⟩
        go_enter Tryz.func120, Tryz.ntmps120
        go_wp2
        go_ret
        exact ⟨_, rfl, len_fin 24 (by omega) (by omega) _ hy _, rfl⟩
      · have hy : 1 ≤ x / 65536 := by omega
        have hz : x / 65536 < 256 := by omega
        have hT : 0 ≤ x / 65536 ∧ x / 65536 < (Lib.len8tab.size : Int) := ⟨by omega, by rw [tab_size]; omega⟩
        go_enter Tryz.func120, Tryz.ntmps120
        go_wp2
        go_ret
        exact ⟨_, rfl, len_fin 16 (by omega) (by omega) _ hy _, rfl⟩
    · by_cases c3 : 256 ≤ x
      · have hy : 1 ≤ x / 256 := by omega
        have hz : x / 256 < 256 := by omega
        have hT : 0 ≤ x / 256 ∧ x / 256 < (Lib.len8tab.size : Int) := ⟨by omega, by rw [tab_size]; omega⟩
        go_enter Tryz.func120, Tryz.ntmps120
        go_wp2
        go_ret
        exact ⟨_, rfl, len_fin 8 (by omega) (by omega) _ hy _, rfl⟩
      · have hy : 1 ≤ x := by omega
        have hz : x < 256 := by omega
        have hT : 0 ≤ x ∧ x < (Lib.len8tab.size : Int) := ⟨by omega, by rw [tab_size]; omega⟩
        go_enter Tryz.func120, Tryz.ntmps120
        go_wp2
        go_ret
        exact ⟨_, rfl, len_fin0 _ hy _, rfl⟩

theorem sizeF_top (l : List Int) : ∀ n m, sizeF l n = m + 1 → rd l m ≠ 0
  | 0, m, h => by simp [sizeF] at h
  | n + 1, m, h => by
    simp only [sizeF] at h
    split at h
    · exact sizeF_top l n m h
    · rename_i hz
      have : n = m := by omega
      rwa [← this]

set_option maxHeartbeats 800000 in
set_option maxRecDepth 100000 in
/-- nat.Bits: only whether it is 0 is told -/
theorem bits_calls (A : Option Addr) (c : Nat) (l : List Int) (w : World) (hl : l.length ≤ 1000000) (hc : l.length ≤ c) (hu : u64s l) (hr : Kd.C (Kd.int .u64) w A l.length l) :
    Calls Tryz.prog 104 #[.slice A l.length c] w fun e w' => ∃ k : Int, e = .returned (.int .i64 k) ∧ (sizeF l l.length = 0 → k = 0) ∧ (sizeF l l.length ≠ 0 → k ≠ 0) ∧ w' = w := by
  have HR := Aside0.mk hr
  clear hr
  have hsl := sizeF_le l l.length
  have hst := sizeF_top l l.length
  have HSZ := Aside0.mk (size_calls A c l w hc HR.out)
  generalize sizeF l l.length = n at *
  have HST := Aside0.mk hst
  clear hst
  cases n with
  | zero =>
    go_enter Tryz.func104, Tryz.ntmps104
    go_wp2_with (first | (go_at_call 119; (with_reducible refine HSZ.out.mono ?_); rintro e w' ⟨rfl, rfl⟩))
    go_ret
    exact ⟨_, rfl, fun _ => rfl, fun h => absurd rfl h, rfl⟩
  | succ m =>
    obtain ⟨ad, rfl, hx⟩ := Kd.at_int HR.out (m : Int) (by omega) (by omega)
    rw [Int.toNat_natCast] at hx
    obtain ⟨x0, x1⟩ := u64s_rd hu m
    have hnz := HST.out m rfl
    have hlt : (m : Int) < l.length := by omega
    have HL := Aside0.mk (len64_calls (rd l m) w (by omega) x1)
    generalize rd l m = x at *
    go_enter Tryz.func104, Tryz.ntmps104
    go_wp2_with (first | (go_at_call 119; (with_reducible refine HSZ.out.mono ?_); rintro e w' ⟨rfl, rfl⟩) | (go_at_call 120; (with_reducible refine HL.out.mono ?_); rintro e w' ⟨k, rfl, ⟨k0, k1⟩, rfl⟩))
    go_ret
    refine ⟨_, rfl, fun h => by omega, fun _ => ?_, rfl⟩
    first | omega | (unfold wrap64; omega)
def signF (neg : Bool) (l : List Int) : Int := if sizeF l l.length = 0 then 0 else if neg then -1 else 1
set_option maxHeartbeats 800000 in
set_option maxRecDepth 100000 in
theorem sign_calls (neg : Bool) (A : Option Addr) (c : Nat) (l : List Int) (w : World) (hl : l.length ≤ 1000000) (hc : l.length ≤ c) (hu : u64s l) (hr : Kd.C (Kd.int .u64) w A l.length l) :
    Calls Tryz.prog 93 #[.agg #[.bool neg, .slice A l.length c]] w fun e w' => e = .returned (.int .i64 (signF neg l)) ∧ Below w.heap.size w w' := by
  have HR := Aside0.mk hr
  have HU := Aside0.mk hu
  clear hr hu
  have HB := Aside0.mk (below_alloc (Below.refl w.heap.size w) (.cells #[.bool neg, .slice A l.length c] 113))
  have hbits := bits_calls A c l (w.alloc (.cells #[.bool neg, .slice A l.length c] 113)) hl hc HU.out (Kd.C_alloc HR.out _)
  by_cases hz : sizeF l l.length = 0
  · have HS := Aside0.mk (show signF neg l = 0 by unfold signF; rw [if_pos hz])
    have HBT := Aside0.mk (hbits.mono (R' := fun e w' => e = .returned (.int .i64 0) ∧ w' = w.alloc (.cells #[.bool neg, .slice A l.length c] 113)) (by rintro e w' ⟨k, rfl, h1, h2, rfl⟩; rw [h1 hz]; exact ⟨rfl, rfl⟩))
    clear hz hbits
    go_enter Tryz.func93, Tryz.ntmps93
    go_wp2_with (first | (go_at_call 104; (with_reducible refine HBT.out.mono ?_); rintro e w' ⟨rfl, rfl⟩))
    go_ret
    exact ⟨by rw [HS.out]; rfl, HB.out⟩
  · have HBT := Aside0.mk (hbits.mono (R' := fun e w' => ∃ k : Int, e = .returned (.int .i64 k) ∧ (k == 0) = false ∧ w' = w.alloc (.cells #[.bool neg, .slice A l.length c] 113)) (by rintro e w' ⟨k, rfl, h1, h2, rfl⟩; exact ⟨k, rfl, by simpa using h2 hz, rfl⟩))
    have HS := Aside0.mk (show signF neg l = if neg then -1 else 1 by unfold signF; rw [if_neg hz])
    clear hz hbits
    cases neg
    · go_enter Tryz.func93, Tryz.ntmps93
      go_wp2_with (first | (go_at_call 104; (with_reducible refine HBT.out.mono ?_); rintro e w' ⟨k, rfl, hk, rfl⟩))
      go_ret
      exact ⟨by rw [HS.out]; rfl, HB.out⟩
    · go_enter Tryz.func93, Tryz.ntmps93
      go_wp2_with (first | (go_at_call 104; (with_reducible refine HBT.out.mono ?_); rintro e w' ⟨k, rfl, hk, rfl⟩))
      go_ret
      exact ⟨by rw [HS.out]; rfl, HB.out⟩
end Go.Proofs.YtmbdbkcifmkpbaaGreatDoor.OwnA
end
section
set_option linter.unusedVariables false
set_option linter.unusedSimpArgs false
namespace Go.Proofs.YtmbdbkcifmkpbaaGreatDoor.OwnA
open Go.RowKit Go.Proofs.YtmbdbkcifmkpbaaGreatDoorW.PrintWords Go.Proofs.YtmbdbkcifmkpbaaGreatDoorW.PrintLast Go.Proofs.YtmbdbkcifmkpbaaGreatDoorW.PrintMore
attribute [local go_sem] max2_mx min2_int max_two min_two max_three min_three max_four min_four

/-- the library's table lies in its variable -/
def Glob (w : World) : Prop := TabAt 0 Lib.deBruijn64tab w
theorem glob_below {n : Nat} {w w' : World} (h : Glob w) (hb : Below w.heap.size w w') : Glob w' := fun j hj => by
  have := h j hj
  exact (hb.cell (World.block_lt_of_cell? w _ this)).trans this

set_option maxHeartbeats 1000000 in
theorem tz64_core (x k idx : Nat) (w : World) (hx0 : ((x : Int) == 0) = false)
    (key : IntKind.u64.wrap (bits BinOp.and IntKind.u64 (x : Int) (IntKind.u64.wrap (-(x : Int))) * 285870213051353865) / 288230376151711744 = (idx : Int))
    (hi : idx < 64) (hk : k < 64) (hcell : w.cell? ⟨0, idx, none⟩ = some (.int .u8 k)) :
    Calls Tryz.prog 126 #[.int .u64 x] w fun e w' => e = .returned (.int .i64 k) ∧ w' = w := by
  go_enter Tryz.func126, Tryz.ntmps126
  go_wp2_with (simp only [key])
  go_ret
  exact ⟨rfl, rfl⟩
theorem tz64_calls (x : Nat) (hx : x < 18446744073709551616) (hx0 : x ≠ 0) (w : World) (hT : Glob w) :
    Calls Tryz.prog 126 #[.int .u64 x] w fun e w' => e = .returned (.int .i64 (Lib.ctz 64 x)) ∧ w' = w := by
  obtain ⟨hlow, hk⟩ := Lib.lowest_bit 64 x hx0 hx
  obtain ⟨hi, htab⟩ := Lib.deBruijn64_at _ hk
  have hcell := hT _ hi
  rw [htab] at hcell
  exact tz64_core x _ _ w (by simp; omega) (tz64_key x _ hx hx0 hlow) hi hk hcell

def zerosGo : List Int → Nat → Int
  | [], _ => 0
  | x :: l, i => if x = 0 then zerosGo l (i + 1) else 64 * (i : Int) + (Lib.ctz 64 x.toNat : Int)
def zerosF (l : List Int) : Int := zerosGo l 0

set_option maxHeartbeats 800000 in
set_option maxRecDepth 100000 in
theorem zeros_calls (A : Option Addr) (c : Nat) (l : List Int) (w : World) (hl : l.length ≤ 1000000) (hc : l.length ≤ c) (hu : u64s l) (hr : Kd.C (Kd.int .u64) w A l.length l) (hG : Glob w) :
    Calls Tryz.prog 108 #[.slice A l.length c] w fun e w' => e = .returned (.int .i64 (zerosF l)) ∧ w = w' := by
  have HR := Aside0.mk hr
  have HU := Aside0.mk hu
  have HGL := Aside0.mk hG
  have HS0 := Aside0.mk (show zerosGo (l.drop 0) 0 = zerosF l from rfl)
  generalize zerosF l = G at *
  clear hr hu hG
  go_enter Tryz.func108, Tryz.ntmps108
  go_wp2
  go_loop [3, 4, 7] (fun v3 v4 v7 => ∃ i : Nat, i ≤ l.length ∧ v7 = .int .i64 i ∧ Aside0 (zerosGo (l.drop i) i = G)) (fun _ _ v7 => l.length - (intOf v7).toNat)
  case atStart => exact ⟨0, Nat.zero_le _, rfl, HS0⟩
  case round =>
    clear HS0
    obtain ⟨i, hi, rfl, HS⟩ := hrel
    by_cases hlt : i < l.length
    · have b1 : decide (i < l.length) = true := decide_eq_true hlt
      have b2 : decide ((i : Int) < l.length) = true := decide_eq_true (by omega)
      obtain ⟨ad, rfl, hx⟩ := Kd.at_int HR.out (i : Int) (by omega) (by omega)
      rw [Int.toNat_natCast] at hx
      obtain ⟨x0, x1⟩ := u64s_rd HU.out i
      have HE := Aside0.mk (show (if rd l i = 0 then zerosGo (l.drop (i + 1)) (i + 1) else 64 * (i : Int) + (Lib.ctz 64 (rd l i).toNat : Int)) = G by
        have h := HS.out
        rw [List.drop_eq_getElem_cons hlt, zerosGo] at h
        have e : rd l i = l[i] := by unfold rd; rw [Int.toNat_natCast, List.getD_eq_getElem?_getD, List.getElem?_eq_getElem hlt, Option.getD_some]
        rw [e]
        exact h)
      generalize rd l i = x at *
      by_cases hz : x = 0
      · rw [if_pos hz] at HE
        have hzb : (x != 0) = false := by simpa using hz
        clear hz
        go_wp2
        go_round
        case rel => exact ⟨i + 1, by omega, by first | rfl | go_num, HE⟩
        case measure => (simp [intOf] <;> omega)
      · rw [if_neg hz] at HE
        have hzb : (x != 0) = true := by simpa using hz
        obtain ⟨xn, rfl⟩ := Int.eq_ofNat_of_zero_le x0
        have hk := (Lib.lowest_bit 64 xn (by omega) (by omega)).2
        have HT := Aside0.mk (tz64_calls xn (by omega) (by omega) w HGL.out)
        rw [Int.toNat_natCast] at HE
        generalize Lib.ctz 64 xn = t at *
        have ht : (t : Int) < 64 := by omega
        clear hz
        go_wp2_with (first | (go_at_call 126; (with_reducible refine HT.out.mono ?_); rintro e w' ⟨rfl, rfl⟩))
        go_ret
        exact ⟨by rw [← HE.out]; first | rfl | (simp; done), rfl⟩
    · obtain rfl : i = l.length := by omega
      have b1 : decide (l.length < l.length) = false := by simp
      have b2 : decide ((l.length : Int) < l.length) = false := by simp
      have HE := Aside0.mk (show 0 = G by
        have h := HS.out
        rw [List.drop_length, zerosGo] at h
        exact h)
      go_wp2
      go_ret
      exact ⟨by rw [← HE.out]; rfl, rfl⟩
end Go.Proofs.YtmbdbkcifmkpbaaGreatDoor.OwnA
end
section
set_option linter.unusedVariables false
set_option linter.unusedSimpArgs false
namespace Go.Proofs.YtmbdbkcifmkpbaaGreatDoor.OwnA
open Go.RowKit Go.Proofs.YtmbdbkcifmkpbaaGreatDoorW.PrintWords Go.Proofs.YtmbdbkcifmkpbaaGreatDoorW.PrintLast Go.Proofs.YtmbdbkcifmkpbaaGreatDoorW.PrintMore
attribute [local go_sem] max2_mx min2_int max_two min_two max_three min_three max_four min_four

set_option maxHeartbeats 800000 in
set_option maxRecDepth 100000 in
theorem made_calls (neg : Bool) (A : Option Addr) (c : Nat) (l : List Int) (w : World) (hl : l.length ≤ 1000000) (hc : l.length ≤ c) (hr : Kd.C (Kd.int .u64) w A l.length l) :
    Calls Tryz.prog 115 #[.bool neg, .slice A l.length c] w fun e w' => ∃ v, e = .returned (.agg #[.bool (neg && decide (0 < (normF l).length)), v]) ∧ Kd.R (Kd.int .u64) 58 w' w.heap.size (fun _ => True) v (normF l) ∧ Below w.heap.size w w' := by
  have hbx : (w.alloc (.cells #[.bool false, .slice none 0 0] 113)).heap[w.heap.size]? = some (.cells #[.bool false, .slice none 0 0] 113 (0, 0)) := World.alloc_heap_new w _
  have hB0 := below_alloc (Below.refl w.heap.size w) (.cells #[.bool false, .slice none 0 0] 113)
  have HN := Aside0.mk (norm_calls A c l (w.alloc (.cells #[.bool false, .slice none 0 0] 113)) hl hc (Kd.C_alloc hr _))
  have HB0 := Aside0.mk hB0
  have HBX := Aside0.mk hbx
  generalize normF l = L at *
  clear hr hbx hB0
  go_enter Tryz.func115, Tryz.ntmps115
  go_wp2_with fail
  refine HN.out.mono ?_
  rintro e w1 ⟨v, rfl, hR, hB⟩
  obtain ⟨A1, c1, rfl⟩ := Kd.R_slice hR
  have HBY := Aside0.mk (show w1.heap[w.heap.size]? = some (.cells #[.bool false, .slice none 0 0] 113 (0, 0)) from (hB.block _ (by simp)).trans HBX.out)
  have HO := Aside0.mk (Kd.R_types (Kd.R_lower hR (below_size HB0.out)) HBY.out (by decide))
  have HB := Aside0.mk (below_step HB0.out hB)
  have q0 := blk_cell HBY.out 0
  have q1 := blk_cell HBY.out 1
  have f0 := blk_frozen HBY.out 0
  have f1 := blk_frozen HBY.out 1
  replace q0 : w1.cell? ⟨w.heap.size, 0, none⟩ = some (.bool false) := q0
  replace q1 : w1.cell? ⟨w.heap.size, 1, none⟩ = some (.slice none 0 0) := q1
  clear hR hB HN HBX
  have FIN : ∀ b : Bool, b = (neg && decide (0 < L.length)) → ∀ (T : Array Value), T.getD 4 undef = .pointer (some ⟨w.heap.size, 0, none⟩) → bodyPost Tryz.prog Tryz.f115 (fun e w' => ∃ v, e = .returned (.agg #[.bool (neg && decide (0 < L.length)), v]) ∧ Kd.R (Kd.int .u64) 58 w' w.heap.size (fun _ => True) v L ∧ Below w.heap.size w w') .ret { tmps := T, defers := [] } ((w1.setCell ⟨w.heap.size, 0, none⟩ (.bool b)).setCell ⟨w.heap.size, 1, none⟩ (.slice A1 L.length c1)) := fun b hb T hT => by
    refine bodyPost_ret (results_cell_row rfl _ _ w.heap.size 113 #[.bool b, .slice A1 L.length c1] (0, 0) _ hT (blk_put (cs := #[.bool b, .slice none 0 0]) (blk_put HBY.out 0 _ rfl) 1 _ rfl) Tryz.underlying113 rfl (by kernel_rfl)) rfl ?_
    refine ⟨_, by rw [hb], Kd.R_mono (Kd.R_far (p := ⟨w.heap.size, 1, none⟩) (Kd.R_far (p := ⟨w.heap.size, 0, none⟩) HO.out (fun _ hk => hk.2) _) (fun _ hk => hk.2) _) (fun _ _ => trivial), below_set (below_set HB.out (Nat.le_refl _)) (Nat.le_refl _)⟩
  have HFIN := Aside0.mk FIN
  clear FIN
  cases neg
  · go_wp2
    exact HFIN.out false rfl _ rfl
  · by_cases hL : 0 < L.length
    · have b1 : decide (0 < L.length) = true := decide_eq_true hL
      have b2 : decide ((0 : Int) < L.length) = true := decide_eq_true (by omega)
      go_wp2
      exact HFIN.out true (by rw [b1]; rfl) _ rfl
    · have b1 : decide (0 < L.length) = false := decide_eq_false hL
      have b2 : decide ((0 : Int) < L.length) = false := decide_eq_false (by omega)
      go_wp2
      exact HFIN.out false (by rw [b1]; rfl) _ rfl
end Go.Proofs.YtmbdbkcifmkpbaaGreatDoor.OwnA
end
section
set_option linter.unusedVariables false
set_option linter.unusedSimpArgs false
namespace Go.Proofs.YtmbdbkcifmkpbaaGreatDoor.OwnA
open Go.RowKit Go.Proofs.YtmbdbkcifmkpbaaGreatDoorW.PrintWords Go.Proofs.YtmbdbkcifmkpbaaGreatDoorW.PrintLast Go.Proofs.YtmbdbkcifmkpbaaGreatDoorW.PrintMore
attribute [local go_sem] max2_mx min2_int max_two min_two max_three min_three max_four min_four

theorem normF_len (l : List Int) : (normF l).length ≤ l.length := by unfold normF; rw [List.length_take]; omega
theorem normF_u64 {l : List Int} (h : u64s l) : u64s (normF l) := u64s_take h _
theorem shrL_len (s : Nat) : ∀ l : List Int, (shrL s l).length = l.length
  | [] => rfl
  | [x] => rfl
  | x :: y :: l => by rw [shrL, List.length_cons, shrL_len s (y :: l), List.length_cons, List.length_cons, List.length_cons]
theorem div_u64 {x : Int} (s : Nat) (h0 : 0 ≤ x) (h1 : x < 18446744073709551616) : 0 ≤ x / 2 ^ s ∧ x / 2 ^ s < 18446744073709551616 := by
  have hp : (0 : Int) < 2 ^ s := Int.pow_pos (by omega)
  refine ⟨Int.ediv_nonneg h0 (by omega), ?_⟩
  have h := Int.ediv_le_self (2 ^ s) h0
  omega
theorem shrL_u64 (s : Nat) : ∀ l : List Int, u64s l → u64s (shrL s l)
  | [], h => h
  | [x], h => fun y hy => by
    rw [shrL, List.mem_singleton] at hy
    subst hy
    exact div_u64 s (h x (by simp)).1 (h x (by simp)).2
  | x :: y :: l, h => fun z hz => by
    rw [shrL, List.mem_cons] at hz
    rcases hz with rfl | hz
    · exact bits_u64 _ _ _
    · exact shrL_u64 s (y :: l) (fun u hu => h u (by simp at hu ⊢; exact Or.inr hu)) z hz
theorem shrF_len (l : List Int) (n : Int) : (shrF l n).length ≤ l.length := by
  unfold shrF
  split
  · simp
  · refine Nat.le_trans (normF_len _) ?_
    rw [shrL_len, List.length_drop]; omega
theorem shrF_u64 {l : List Int} (h : u64s l) (n : Int) : u64s (shrF l n) := by
  unfold shrF
  split
  · intro y hy; simp at hy
  · exact normF_u64 (shrL_u64 _ _ (fun y hy => h y (List.mem_of_mem_drop hy)))

set_option maxHeartbeats 400000 in
theorem odd_calls (n : Int) (w : World) (h0 : 0 ≤ n) (h1 : n ≤ 65536) : Calls Tryz.prog 110 #[.int .i64 n] w fun e w' => e = .returned (.bool false) ∧ w' = w := by
  have b1 : decide (n < 0) = false := decide_eq_false (by omega)
  have b2 : decide (65536 < n) = false := decide_eq_false (by omega)
  go_enter Tryz.func110, Tryz.ntmps110
  go_wp2
  go_ret
  exact ⟨rfl, rfl⟩
set_option maxHeartbeats 800000 in
set_option maxRecDepth 100000 in
theorem Shr_calls (A : Option Addr) (c : Nat) (l : List Int) (n : Int) (w : World) (hl : l.length ≤ 100000) (hc : l.length ≤ c) (h0 : 0 ≤ n) (h1 : n ≤ 65536) (hu : u64s l)
    (hr : Kd.C (Kd.int .u64) w A l.length l) :
    Calls Tryz.prog 105 #[.slice A l.length c, .int .i64 n] w fun e w' => ∃ v, e = .returned (.tuple #[v, .int .i64 0]) ∧ Kd.R (Kd.int .u64) 58 w' w.heap.size (fun _ => True) v (shrF l n) ∧ Below w.heap.size w w' := by
  have HS := Aside0.mk (shr_calls A c l n w hl hc h0 h1 hu hr)
  have HD := Aside0.mk (odd_calls n w h0 h1)
  clear hr hu
  go_enter Tryz.func105, Tryz.ntmps105
  go_wp2_with fail
  refine HD.out.mono ?_
  rintro e w' ⟨rfl, rfl⟩
  go_wp2_with fail
  refine HS.out.mono ?_
  rintro e w1 ⟨v, rfl, hR, hB⟩
  have HO := Aside0.mk hR
  have HB := Aside0.mk hB
  clear hR hB
  go_wp2
  go_ret2
  exact ⟨_, rfl, HO.out, HB.out⟩
def checkF (l : List Int) (exp : Int) : Int := if exp < -16384 ∨ 16384 < exp ∨ 1024 < l.length then 9 else 0
set_option maxHeartbeats 800000 in
set_option maxRecDepth 100000 in
theorem check_calls (neg : Bool) (A : Option Addr) (c : Nat) (l : List Int) (exp : Int) (w : World) :
    Calls Tryz.prog 89 #[.agg #[.bool neg, .slice A l.length c, .int .i64 exp]] w fun e w' => e = .returned (.int .i64 (checkF l exp)) ∧ Below w.heap.size w w' := by
  have HB := Aside0.mk (below_alloc (Below.refl w.heap.size w) (.cells #[.bool neg, .slice A l.length c, .int .i64 exp] 27))
  by_cases h1 : exp < -16384
  · have HF := Aside0.mk (show checkF l exp = 9 by unfold checkF; rw [if_pos (.inl h1)])
    have b1 : decide (exp < -16384) = true := decide_eq_true h1
    go_enter Tryz.func89, Tryz.ntmps89
    go_wp2
    go_ret
    exact ⟨by rw [HF.out]; rfl, HB.out⟩
  · have b1 : decide (exp < -16384) = false := decide_eq_false h1
    by_cases h2 : 16384 < exp
    · have HF := Aside0.mk (show checkF l exp = 9 by unfold checkF; rw [if_pos (.inr (.inl h2))])
      have b2 : decide (16384 < exp) = true := decide_eq_true h2
      go_enter Tryz.func89, Tryz.ntmps89
      go_wp2
      go_ret
      exact ⟨by rw [HF.out]; rfl, HB.out⟩
    · have b2 : decide (16384 < exp) = false := decide_eq_false h2
      by_cases h3 : 1024 < l.length
      · have HF := Aside0.mk (show checkF l exp = 9 by unfold checkF; rw [if_pos (.inr (.inr h3))])
        have b3 : decide (1024 < l.length) = true := decide_eq_true h3
        have b4 : decide ((1024 : Int) < l.length) = true := decide_eq_true (by omega)
        go_enter Tryz.func89, Tryz.ntmps89
        go_wp2
        go_ret
        exact ⟨by rw [HF.out]; rfl, HB.out⟩
      · have HF := Aside0.mk (show checkF l exp = 0 by unfold checkF; rw [if_neg (by rintro (h | h | h) <;> omega)])
        have b3 : decide (1024 < l.length) = false := decide_eq_false h3
        have b4 : decide ((1024 : Int) < l.length) = false := decide_eq_false (by omega)
        go_enter Tryz.func89, Tryz.ntmps89
        go_wp2
        go_ret
        exact ⟨by rw [HF.out]; rfl, HB.out⟩
end Go.Proofs.YtmbdbkcifmkpbaaGreatDoor.OwnA
end
section
set_option linter.unusedVariables false
set_option linter.unusedSimpArgs false
namespace Go.Proofs.YtmbdbkcifmkpbaaGreatDoor.OwnA
open Go.RowKit Go.Proofs.YtmbdbkcifmkpbaaGreatDoorW.PrintWords Go.Proofs.YtmbdbkcifmkpbaaGreatDoorW.PrintLast Go.Proofs.YtmbdbkcifmkpbaaGreatDoorW.PrintMore
theorem min2_mn (k k' : IntKind) (x y : Int) : Builtin.min2 (.int k x) (.int k' y) = pure (.int k (mn x y)) := by simp only [Builtin.min2, mn]
attribute [local go_sem] max2_mx min2_mn max_two min_two max_three min_three max_four min_four

/-- shifted down by `left`, in steps of at most 65536 -/
def shrLoop : Nat → List Int → Int → List Int
  | 0, l, _ => l
  | k + 1, l, left => if 0 < left then shrLoop k (shrF l (mn left 65536)) (left - 65536) else l
theorem shrLoop_len : ∀ (k : Nat) (l : List Int) (n : Int), (shrLoop k l n).length ≤ l.length
  | 0, l, n => Nat.le_refl _
  | k + 1, l, n => by
    rw [shrLoop]
    split
    · exact Nat.le_trans (shrLoop_len k _ _) (shrF_len _ _)
    · exact Nat.le_refl _
theorem shrLoop_u64 : ∀ (k : Nat) (l : List Int) (n : Int), u64s l → u64s (shrLoop k l n)
  | 0, l, n, h => h
  | k + 1, l, n, h => by
    rw [shrLoop]
    split
    · exact shrLoop_u64 k _ _ (shrF_u64 h _)
    · exact h
theorem zerosGo_bd : ∀ (l : List Int) (i : Nat), u64s l → 0 ≤ zerosGo l i ∧ zerosGo l i < 64 * ((i : Int) + l.length) + 1
  | [], i, _ => by simp [zerosGo]; omega
  | x :: l, i, h => by
    rw [zerosGo]
    split
    · have := zerosGo_bd l (i + 1) (fun y hy => h y (by simp [hy]))
      rw [List.length_cons]
      omega
    · rename_i hz
      obtain ⟨h0, h1⟩ := h x (by simp)
      have hk := (Lib.lowest_bit 64 x.toNat (by omega) (by omega)).2
      rw [List.length_cons]
      omega
theorem useIt {p q G : Prop} (h : p → q) (hp : p) (k : q → G) : G := k (h hp)
theorem blk3 {W : World} {g : Nat} (h : W.heap[g]? = some (.cells #[.bool false, .slice none 0 0, .int .i64 0] 27 (0, 0))) :
    W.cell? ⟨g, 0, none⟩ = some (.bool false) ∧ W.cell? ⟨g, 1, none⟩ = some (.slice none 0 0) ∧ W.cell? ⟨g, 2, none⟩ = some (.int .i64 0) ∧ W.frozen? ⟨g, 0, none⟩ = false ∧ W.frozen? ⟨g, 1, none⟩ = false ∧ W.frozen? ⟨g, 2, none⟩ = false :=
  ⟨blk_cell h 0, blk_cell h 1, blk_cell h 2, blk_frozen h 0, blk_frozen h 1, blk_frozen h 2⟩
structure Dy where
  neg : Bool
  abs : List Int
  exp : Int
  e : Int
def toldF (neg : Bool) (l : List Int) (exp : Int) : Dy :=
  if signF neg l = 0 then ⟨false, [], 0, 0⟩ else
  if checkF (normF (shrLoop 200 l (zerosF l))) (exp + zerosF l) = 0 then ⟨neg, normF (shrLoop 200 l (zerosF l)), exp + zerosF l, 0⟩ else ⟨false, [], 0, 4⟩

set_option maxHeartbeats 1600000 in
set_option maxRecDepth 100000 in
theorem told_calls (neg : Bool) (A : Option Addr) (c : Nat) (l : List Int) (exp : Int) (w : World) (hl : l.length ≤ 100000) (hc : l.length ≤ c) (hu : u64s l) (hr : Kd.C (Kd.int .u64) w A l.length l) (hG : Glob w)
    (he0 : -1000000 ≤ exp) (he1 : exp ≤ 1000000) :
    Calls Tryz.prog 90 #[.agg #[.bool neg, .slice A l.length c], .int .i64 exp] w fun e w' => ∃ v, e = .returned (.tuple #[.agg #[.bool (toldF neg l exp).neg, v, .int .i64 (toldF neg l exp).exp], .int .i64 (toldF neg l exp).e]) ∧
      Kd.R (Kd.int .u64) 58 w' w.heap.size (fun _ => True) v (toldF neg l exp).abs ∧ Below w.heap.size w w' := by
  have HR := Aside0.mk hr
  have HU := Aside0.mk hu
  have HGL := Aside0.mk hG
  clear hr hu hG
  obtain ⟨wL, hwL⟩ : ∃ wL : World, wL = (w.alloc (.cells #[.bool neg, .slice A l.length c] 113)).alloc (.cells #[.bool false, .slice none 0 0, .int .i64 0] 27) := ⟨_, rfl⟩
  have hLB : Below w.heap.size w wL := by rw [hwL]; exact ((Below.refl w.heap.size w).alloc (Nat.le_refl _) _).alloc (by simp) _
  have hb0 : wL.heap[w.heap.size]? = some (.cells #[.bool neg, .slice A l.length c] 113 (0, 0)) := by rw [hwL, Below.heap_alloc _ _ _ (by simp)]; exact World.alloc_heap_new w _
  have hb1 : wL.heap[w.heap.size + 1]? = some (.cells #[.bool false, .slice none 0 0, .int .i64 0] 27 (0, 0)) := by
    rw [hwL]
    have := World.alloc_heap_new (w.alloc (.cells #[.bool neg, .slice A l.length c] 113)) (.cells #[.bool false, .slice none 0 0, .int .i64 0] 27)
    rwa [World.size_alloc] at this
  have HLB := Aside0.mk hLB
  have HB0 := Aside0.mk hb0
  have HB1 := Aside0.mk hb1
  go_enter Tryz.func90, Tryz.ntmps90
  go_wp2_with fail
  rw [← hwL]
  clear hwL hLB hb0 hb1
  refine (sign_calls neg A c l wL (by omega) hc HU.out (Kd.C_below HR.out HLB.out)).mono ?_
  rintro e w1 ⟨rfl, hB⟩
  have HY0 := Aside0.mk (show w1.heap[w.heap.size]? = some (.cells #[.bool neg, .slice A l.length c] 113 (0, 0)) from (hB.block _ (blk_lt HB0.out)).trans HB0.out)
  have HY1 := Aside0.mk (show w1.heap[w.heap.size + 1]? = some (.cells #[.bool false, .slice none 0 0, .int .i64 0] 27 (0, 0)) from (hB.block _ (blk_lt HB1.out)).trans HB1.out)
  have HB := Aside0.mk (below_step HLB.out hB)
  clear hB HB0 HB1 HLB
  have FIN : ∀ (T : Array Value) (W : World) (n' : Bool) (v : Value) (x' e' : Int), T.getD 4 undef = .pointer (some ⟨w.heap.size + 1, 0, none⟩) → T.getD 5 undef = .int .i64 e' → W.heap[w.heap.size + 1]? = some (.cells #[.bool n', v, .int .i64 x'] 27 (0, 0)) →
      Kd.R (Kd.int .u64) 58 W w.heap.size (fun _ => True) v (toldF neg l exp).abs → Below w.heap.size w W → n' = (toldF neg l exp).neg → x' = (toldF neg l exp).exp → e' = (toldF neg l exp).e →
      bodyPost Tryz.prog Tryz.f90 (fun e w' => ∃ v, e = .returned (.tuple #[.agg #[.bool (toldF neg l exp).neg, v, .int .i64 (toldF neg l exp).exp], .int .i64 (toldF neg l exp).e]) ∧ Kd.R (Kd.int .u64) 58 w' w.heap.size (fun _ => True) v (toldF neg l exp).abs ∧ Below w.heap.size w w') .ret { tmps := T, defers := [] } W := fun T W n' v x' e' h4 h5 hb hR hB e1 e2 e3 => by
    refine bodyPost_ret (results_ct rfl T W (w.heap.size + 1) 27 _ (0, 0) _ h4 hb Tryz.underlying27 rfl (by kernel_rfl)) rfl ?_
    exact ⟨v, by rw [h5, e1, e2, e3], hR, hB⟩
  have HFIN := Aside0.mk FIN
  clear FIN
  have a0 : w1.cell? ⟨w.heap.size, 0, none⟩ = some (.bool neg) := blk_cell HY0.out 0
  have a1 : w1.cell? ⟨w.heap.size, 1, none⟩ = some (.slice A l.length c) := blk_cell HY0.out 1
  by_cases hs0 : signF neg l = 0
  · have HT := Aside0.mk (show toldF neg l exp = ⟨false, [], 0, 0⟩ by unfold toldF; rw [if_pos hs0])
    have r0 : w1.cell? ⟨w.heap.size + 1, 0, none⟩ = some (.bool false) := blk_cell HY1.out 0
    have r1 : w1.cell? ⟨w.heap.size + 1, 1, none⟩ = some (.slice none 0 0) := blk_cell HY1.out 1
    have r2 : w1.cell? ⟨w.heap.size + 1, 2, none⟩ = some (.int .i64 0) := blk_cell HY1.out 2
    have f0 := blk_frozen HY1.out 0
    have f1 := blk_frozen HY1.out 1
    have f2 := blk_frozen HY1.out 2
    rw [hs0]
    clear hs0
    go_wp2
    exact HFIN.out _ _ false (.slice none 0 0) 0 0 rfl rfl (blk_put (cs := #[.bool false, .slice none 0 0, .int .i64 0]) (blk_put (cs := #[.bool false, .slice none 0 0, .int .i64 0]) (blk_put HY1.out 0 _ rfl) 1 _ rfl) 2 _ rfl) (by rw [HT.out]; exact Kd.R_nil ..) (below_set (below_set (below_set HB.out (by omega)) (by omega)) (by omega)) (by rw [HT.out]) (by rw [HT.out]) (by rw [HT.out])
  · have hsb : (signF neg l == 0) = false := by simpa using hs0
    have HZB := Aside0.mk (zerosGo_bd l 0 HU.out)
    have HZC := Aside0.mk (zeros_calls A c l w1 (by omega) hc HU.out (Kd.C_below HR.out HB.out) (glob_below (n := 0) HGL.out HB.out))
    have HT0 := Aside0.mk (show toldF neg l exp = if checkF (normF (shrLoop 200 l (zerosF l))) (exp + zerosF l) = 0 then ⟨neg, normF (shrLoop 200 l (zerosF l)), exp + zerosF l, 0⟩ else ⟨false, [], 0, 4⟩ by unfold toldF; rw [if_neg hs0])
    have hz0 : 0 ≤ zerosF l := HZB.out.1
    have hz1 : zerosF l ≤ 6400000 := by have := HZB.out.2; unfold zerosF; omega
    clear hs0 HZB
    generalize zerosF l = z at *
    have HS0 := Aside0.mk (show shrLoop 200 l z = shrLoop 200 l z from rfl)
    have HGL2 := Aside0.mk (shrLoop_len 200 l z)
    have HGU := Aside0.mk (shrLoop_u64 200 l z HU.out)
    generalize hG : shrLoop 200 l z = G at *
    have HS1 := Aside0.mk hG
    clear hG HS0
    generalize signF neg l = sg at *
    go_wp2_with (first | (go_at_call 108; (with_reducible refine HZC.out.mono ?_); rintro e w' ⟨rfl, rfl⟩))
    clear a0 a1
    go_loopw [7, 8] (fun v7 v8 wr => ∃ (k : Nat) (A' : Option Addr) (c' : Nat) (L : List Int) (left : Int), k ≤ 200 ∧ -65536 ≤ left ∧ left ≤ 65536 * k ∧ v7 = .slice A' L.length c' ∧ v8 = .int .i64 left ∧ L.length ≤ 100000 ∧ L.length ≤ c' ∧ Aside0 (shrLoop k L left = G) ∧ Aside0 (u64s L) ∧ Aside0 (Kd.C (Kd.int .u64) wr A' L.length L) ∧ Aside0 (Below w.heap.size w wr) ∧ Aside0 (wr.heap[w.heap.size]? = some (.cells #[.bool neg, .slice A l.length c] 113 (0, 0))) ∧ Aside0 (wr.heap[w.heap.size + 1]? = some (.cells #[.bool false, .slice none 0 0, .int .i64 0] 27 (0, 0)))) (fun _ v8 _ => (intOf v8).toNat)
    case atStart => exact ⟨200, A, c, l, z, Nat.le_refl _, by omega, by omega, rfl, rfl, hl, hc, HS1, HU, ⟨Kd.C_below HR.out HB.out⟩, HB, HY0, HY1⟩
    case round =>
      clear HS1 HU HB HY0 HY1
      obtain ⟨k, A', c', L, left, hk, hl0, hl1, rfl, rfl, hL, hLc, HS, HU, HC, HB, HY0, HY1⟩ := hrel
      by_cases hlt : 0 < left
      · have b1 : decide (0 < left) = true := decide_eq_true hlt
        obtain ⟨k, rfl⟩ : ∃ j, k = j + 1 := ⟨k - 1, by omega⟩
        have HE := Aside0.mk (show shrLoop k (shrF L (mn left 65536)) (left - 65536) = G by
          have h := HS.out
          rw [shrLoop, if_pos hlt] at h
          exact h)
        have hm0 : 0 ≤ mn left 65536 := by unfold mn; split <;> omega
        have hm1 : mn left 65536 ≤ 65536 := by unfold mn; split <;> omega
        have HSC := Aside0.mk (Shr_calls A' c' L (mn left 65536) wr hL hLc hm0 hm1 HU.out HC.out)
        have HU2 := Aside0.mk (shrF_u64 HU.out (mn left 65536))
        have HL2 := Aside0.mk (Nat.le_trans (shrF_len L (mn left 65536)) hL)
        obtain ⟨q, hq⟩ : ∃ q, mn left 65536 = q := ⟨_, rfl⟩
        rw [hq] at HE HSC HU2 HL2
        clear hm0 hm1
        go_wp2_with (first | (go_at_call 105; (with_reducible refine HSC.out.mono ?_); rintro e w2 ⟨v, rfl, hR, hB⟩; obtain ⟨A2, c2, rfl⟩ := Kd.R_slice hR; have HR2 := Aside0.mk (Kd.R_reads' hR).2; have HB2 := Aside0.mk hB; clear hR hB))
        go_roundw
        case rel => exact ⟨k, A2, c2, shrF L q, left - 65536, by omega, by omega, by omega, rfl, by first | rfl | go_num, HL2.out, HR2.out.1, HE, HU2, ⟨HR2.out.2⟩, ⟨below_step HB.out HB2.out⟩, ⟨(HB2.out.block _ (blk_lt HY0.out)).trans HY0.out⟩, ⟨(HB2.out.block _ (blk_lt HY1.out)).trans HY1.out⟩⟩
        case measure => (simp [intOf] <;> omega)
      · have b1 : decide (0 < left) = false := decide_eq_false hlt
        have hLG : L = G := by
          have h := HS.out
          cases k with
          | zero => exact h
          | succ k => rw [shrLoop, if_neg hlt] at h; exact h
        subst hLG
        have a0 : wr.cell? ⟨w.heap.size, 0, none⟩ = some (.bool neg) := blk_cell HY0.out 0
        have hwl : w.heap.size ≤ wr.heap.size := HB.out.size
        go_upto_region 9 with (fail)
        go_cut [9] from 31 to 38 (fun t9 wx => ∃ (g : Nat) (A3 : Option Addr) (c3 : Nat), t9 = .pointer (some ⟨g, 0, none⟩) ∧ Aside0 (wx.heap[g]? = some (.cells #[.bool neg, .slice A3 (normF L).length c3, .int .i64 (exp + z)] 27 (0, 0))) ∧ Aside0 (Below wr.heap.size wr wx) ∧ Aside0 (wr.heap.size ≤ g) ∧ Aside0 (Kd.R (Kd.int .u64) 58 wx wr.heap.size (fun _ => True) (.slice A3 (normF L).length c3) (normF L)))
        case rest =>
          obtain ⟨g, A3, c3, rfl, HG, HBx, HGL3, HRx⟩ := hcut
          have HZ1 := Aside0.mk (show wc.heap[w.heap.size + 1]? = some (.cells #[.bool false, .slice none 0 0, .int .i64 0] 27 (0, 0)) from (HBx.out.block _ (blk_lt HY1.out)).trans HY1.out)
          have HBC := Aside0.mk (below_step HB.out HBx.out)
          have g0 : wc.cell? ⟨g, 0, none⟩ = some (.bool neg) := blk_cell HG.out 0
          have g1 : wc.cell? ⟨g, 1, none⟩ = some (.slice A3 (normF L).length c3) := blk_cell HG.out 1
          have g2 : wc.cell? ⟨g, 2, none⟩ = some (.int .i64 (exp + z)) := blk_cell HG.out 2
          generalize normF L = NL at *
          clear a0 hwl
          go_wp2_with fail
          refine (check_calls neg A3 c3 NL (exp + z) wc).mono ?_
          rintro e w5 ⟨rfl, hB5⟩
          have HG5 := Aside0.mk (show w5.heap[g]? = some (.cells #[.bool neg, .slice A3 NL.length c3, .int .i64 (exp + z)] 27 (0, 0)) from (hB5.block _ (blk_lt HG.out)).trans HG.out)
          have HZ5 := Aside0.mk (show w5.heap[w.heap.size + 1]? = some (.cells #[.bool false, .slice none 0 0, .int .i64 0] 27 (0, 0)) from (hB5.block _ (blk_lt HZ1.out)).trans HZ1.out)
          have HB5 := Aside0.mk (below_step HBC.out hB5)
          have HR5 := Aside0.mk (Kd.R_types (Kd.R_lower (Kd.R_below HRx.out hB5) HB.out.size) HZ5.out (by decide))
          have g0 : w5.cell? ⟨g, 0, none⟩ = some (.bool neg) := blk_cell HG5.out 0
          have g1 : w5.cell? ⟨g, 1, none⟩ = some (.slice A3 NL.length c3) := blk_cell HG5.out 1
          have g2 : w5.cell? ⟨g, 2, none⟩ = some (.int .i64 (exp + z)) := blk_cell HG5.out 2
          have r0 : w5.cell? ⟨w.heap.size + 1, 0, none⟩ = some (.bool false) := blk_cell HZ5.out 0
          have r1 : w5.cell? ⟨w.heap.size + 1, 1, none⟩ = some (.slice none 0 0) := blk_cell HZ5.out 1
          have r2 : w5.cell? ⟨w.heap.size + 1, 2, none⟩ = some (.int .i64 0) := blk_cell HZ5.out 2
          have f0 := blk_frozen HZ5.out 0
          have f1 := blk_frozen HZ5.out 1
          have f2 := blk_frozen HZ5.out 2
          clear hB5
          by_cases hck : checkF NL (exp + z) = 0
          · have HT := Aside0.mk (show toldF neg l exp = ⟨neg, NL, exp + z, 0⟩ by rw [HT0.out, if_pos hck])
            rw [hck]
            clear hck
            go_wp2
            exact HFIN.out _ _ neg (.slice A3 NL.length c3) (exp + z) 0 rfl rfl (blk_put (cs := #[.bool neg, .slice A3 NL.length c3, .int .i64 0]) (blk_put (cs := #[.bool neg, .slice none 0 0, .int .i64 0]) (blk_put HZ5.out 0 _ rfl) 1 _ rfl) 2 _ rfl) (by rw [HT.out]; exact Kd.R_mono (Kd.R_far (p := ⟨w.heap.size + 1, 2, none⟩) (Kd.R_far (p := ⟨w.heap.size + 1, 1, none⟩) (Kd.R_far (p := ⟨w.heap.size + 1, 0, none⟩) HR5.out (fun _ hk => hk.2) _) (fun _ hk => hk.2) _) (fun _ hk => hk.2) _) (fun _ _ => trivial)) (below_set (below_set (below_set HB5.out (by simp)) (by simp)) (by simp)) (by rw [HT.out]) (by rw [HT.out]) (by rw [HT.out])
          · have HT := Aside0.mk (show toldF neg l exp = ⟨false, [], 0, 4⟩ by rw [HT0.out, if_neg hck])
            have hckb : (checkF NL (exp + z) != 0) = true := by simpa using hck
            generalize checkF NL (exp + z) = ck at *
            clear hck
            go_wp2
            exact HFIN.out _ _ false (.slice none 0 0) 0 4 rfl rfl (blk_put (cs := #[.bool false, .slice none 0 0, .int .i64 0]) (blk_put (cs := #[.bool false, .slice none 0 0, .int .i64 0]) (blk_put HZ5.out 0 _ rfl) 1 _ rfl) 2 _ rfl) (by rw [HT.out]; exact Kd.R_nil ..) (below_set (below_set (below_set HB5.out (by simp)) (by simp)) (by simp)) (by rw [HT.out]) (by rw [HT.out]) (by rw [HT.out])
        have KS := Aside0.mk (show ∀ Xw, Below wr.heap.size wr Xw → (Xw.cell? ⟨w.heap.size, 0, none⟩ = some (.bool neg) ∧ Below wr.heap.size wr Xw) from fun Xw h => ⟨(h.cell (World.block_lt_of_cell? wr _ a0)).trans a0, h⟩)
        have SA := Aside0.mk (show ∀ X o, Below wr.heap.size wr X → Below wr.heap.size wr (X.alloc o) from fun X o h => h.alloc h.size o)
        have SC := Aside0.mk (show ∀ X Y, Below wr.heap.size wr X → Below X.heap.size X Y → Below wr.heap.size wr Y from fun X Y h k => h.trans (k.mono h.size))
        have SS := Aside0.mk (show ∀ (X : World) (u0 u1 u2 : Value), Below wr.heap.size wr X → Below wr.heap.size wr (((X.setCell ⟨wr.heap.size, 0, none⟩ u0).setCell ⟨wr.heap.size, 1, none⟩ u1).setCell ⟨wr.heap.size, 2, none⟩ u2) from fun X u0 u1 u2 h => ((h.setCell (Nat.le_refl _) u0).setCell (Nat.le_refl _) u1).setCell (Nat.le_refl _) u2)
        have SN := Aside0.mk (show ∀ X, Below wr.heap.size wr X → Calls Tryz.prog 109 #[.slice A' L.length c'] X fun e w' => ∃ v, e = .returned v ∧ Kd.R (Kd.int .u64) 58 w' X.heap.size (fun _ => True) v (normF L) ∧ Below X.heap.size X w' from fun X h => norm_calls A' c' L X (by omega) hLc (Kd.C_below HC.out h))
        have BLK := Aside0.mk (show ∀ w2, Below (wr.alloc (.cells #[.bool false, .slice none 0 0, .int .i64 0] 27)).drew.heap.size (wr.alloc (.cells #[.bool false, .slice none 0 0, .int .i64 0] 27)).drew w2 → _ from
          fun w2 hB2 => blk3 ((hB2.block wr.heap.size (by simp)).trans (World.alloc_heap_new wr _)))
        have hwr : IntKind.i64.wrap (exp + z) = exp + z := (i64_w _).trans (ww (by omega) (by omega))
        clear a0
        go_region_held3 (fun Xw => Xw.cell? ⟨w.heap.size, 0, none⟩ = some (.bool neg) ∧ Below wr.heap.size wr Xw)
          (first
            | with_reducible exact KS.out _ ((Below.refl wr.heap.size wr).drew)
            | with_reducible exact KS.out _ ((SA.out _ _ (Below.refl wr.heap.size wr)).drew)
            | with_reducible exact KS.out _ (SA.out _ _ (SC.out _ _ ((Below.refl wr.heap.size wr).drew) (by assumption)))
            | with_reducible exact KS.out _ (SC.out _ _ ((Below.refl wr.heap.size wr).drew) (by assumption))
            | (go_split_ands; with_reducible exact KS.out _ (by assumption))
            | (go_split_ands; with_reducible exact KS.out _ (SC.out _ _ (by assumption) (by assumption)))
            | (go_split_ands; with_reducible exact KS.out _ (SA.out _ _ (by assumption)))
            | (go_split_ands; with_reducible exact KS.out _ (SS.out _ _ _ _ (SC.out _ _ ((SA.out _ _ (Below.refl wr.heap.size wr)).drew) (by assumption)))))
          (first
            | (go_split_ands
               go_at_call 109
               refine (SN.out _ (by assumption)).mono ?_
               rintro e w2 ⟨v, rfl, hR, hB2⟩
               obtain ⟨A3, c3, rfl⟩ := Kd.R_slice hR
               have HR3 := Aside0.mk hR
               (first
                 | (refine useIt (BLK.out w2) ?_ ?_
                    assumption
                    rintro ⟨q0, q1, q2, f0, f1, f2⟩)
                 | skip)
               clear hR))
        all_goals (go_wp2_with fail)
        all_goals go_meet
        · have hb := SC.out _ _ ((Below.refl wr.heap.size wr).drew) hB2
          exact ⟨w2.heap.size, A3, c3, rfl, ⟨World.alloc_heap_new w2 _⟩, ⟨SA.out _ _ hb⟩, ⟨hb.size⟩, ⟨Kd.R_alloc (Kd.R_lower HR3.out (Nat.le_refl _)) _⟩⟩
        · have hb := SC.out _ _ ((SA.out _ _ (Below.refl wr.heap.size wr)).drew) hB2
          have hblk := (hB2.block wr.heap.size (by simp)).trans (World.alloc_heap_new wr (.cells #[.bool false, .slice none 0 0, .int .i64 0] 27))
          have hR := Kd.R_types (Kd.R_lower HR3.out (show wr.heap.size ≤ (wr.alloc (.cells #[.bool false, .slice none 0 0, .int .i64 0] 27)).drew.heap.size by simp)) hblk (by decide)
          exact ⟨wr.heap.size, A3, c3, rfl, ⟨blk_put (cs := #[.bool neg, .slice A3 (normF L).length c3, .int .i64 0]) (blk_put (cs := #[.bool neg, .slice none 0 0, .int .i64 0]) (blk_put hblk 0 _ rfl) 1 _ rfl) 2 _ rfl⟩, ⟨SS.out _ _ _ _ hb⟩, ⟨Nat.le_refl _⟩, ⟨Kd.R_mono (Kd.R_far (p := ⟨wr.heap.size, 2, none⟩) (Kd.R_far (p := ⟨wr.heap.size, 1, none⟩) (Kd.R_far (p := ⟨wr.heap.size, 0, none⟩) hR (fun _ hk => hk.2) _) (fun _ hk => hk.2) _) (fun _ hk => hk.2) _) (fun _ _ => trivial)⟩⟩
end Go.Proofs.YtmbdbkcifmkpbaaGreatDoor.OwnA
end
section
set_option linter.unusedVariables false
set_option linter.unusedSimpArgs false
namespace Go.Proofs.YtmbdbkcifmkpbaaGreatDoor.OwnA
open Go.RowKit Go.Proofs.YtmbdbkcifmkpbaaGreatDoorW.PrintWords Go.Proofs.YtmbdbkcifmkpbaaGreatDoorW.PrintLast Go.Proofs.YtmbdbkcifmkpbaaGreatDoorW.PrintMore
attribute [local go_sem] max2_mx min2_mn max_two min_two max_three min_three max_four min_four

/-- more than finite? -/
def badW (x : Int) : Bool := decide (bits .and .u64 (x / 4503599627370496) 2047 = 2047)
set_option maxHeartbeats 1600000 in
set_option maxRecDepth 100000 in
theorem class_calls (x : Int) (w : World) (h0 : 0 ≤ x) (h1 : x < 18446744073709551616) :
    Calls Tryz.prog 28 #[.int .u64 x] w fun e w' => ∃ k : Int, e = .returned (.int .i64 k) ∧ decide (1 < k) = badW x ∧ w' = w := by
  obtain ⟨e, he⟩ : ∃ e, bits .and .u64 (x / 4503599627370496) 2047 = e := ⟨_, rfl⟩
  obtain ⟨f, hf⟩ : ∃ f, bits .and .u64 x 4503599627370495 = f := ⟨_, rfl⟩
  have HW := Aside0.mk (show badW x = decide (e = 2047) by unfold badW; rw [he])
  have FIN : ∀ (T : Array Value) (k : Int), T.getD 2 undef = .int .i64 k → decide (1 < k) = decide (e = 2047) →
      bodyPost Tryz.prog Tryz.f28 (fun e w' => ∃ k : Int, e = .returned (.int .i64 k) ∧ decide (1 < k) = badW x ∧ w' = w) .ret { tmps := T, defers := [] } w := fun T k hk h => by
    refine bodyPost_ret (results_single (v := .int .i64 k) rfl (by rw [← hk]; exact .tmp .nil)) rfl ?_
    exact ⟨k, rfl, by rw [HW.out, h], rfl⟩
  have HFIN := Aside0.mk FIN
  clear FIN
  by_cases he1 : e = 2047
  · have b1 : (e == 2047) = true := by simpa using he1
    by_cases hf1 : f = 0
    · have b2 : (f != 0) = false := by simpa using hf1
      have b3 : (f == 0) = true := by simpa using hf1
      go_enter Tryz.func28, Tryz.ntmps28
      go_wp2
      exact HFIN.out _ 2 rfl (by rw [he1]; rfl)
    · have b2 : (f != 0) = true := by simpa using hf1
      have b3 : (f == 0) = false := by simpa using hf1
      go_enter Tryz.func28, Tryz.ntmps28
      go_wp2
      exact HFIN.out _ 3 rfl (by rw [he1]; rfl)
  · have b1 : (e == 2047) = false := by simpa using he1
    have hd : decide (e = 2047) = false := by simpa using he1
    by_cases he0 : e = 0
    · have b4 : (e == 0) = true := by simpa using he0
      by_cases hf1 : f = 0
      · have b2 : (f != 0) = false := by simpa using hf1
        have b3 : (f == 0) = true := by simpa using hf1
        go_enter Tryz.func28, Tryz.ntmps28
        go_wp2
        exact HFIN.out _ 0 rfl (by rw [hd]; rfl)
      · have b2 : (f != 0) = true := by simpa using hf1
        have b3 : (f == 0) = false := by simpa using hf1
        go_enter Tryz.func28, Tryz.ntmps28
        go_wp2
        exact HFIN.out _ 1 rfl (by rw [hd]; rfl)
    · have b4 : (e == 0) = false := by simpa using he0
      go_enter Tryz.func28, Tryz.ntmps28
      go_wp2
      exact HFIN.out _ 1 rfl (by rw [hd]; rfl)

set_option maxHeartbeats 1600000 in
theorem fin1_calls (x : Int) (w : World) (h0 : 0 ≤ x) (h1 : x < 18446744073709551616) :
    Calls Tryz.prog 27 #[.int .u64 x] w fun e w' => e = .returned (.bool (badW x)) ∧ w' = w := by
  go_enter Tryz.func27, Tryz.ntmps27
  go_wp2_with fail
  refine (class_calls x w h0 h1).mono ?_
  rintro e w1 ⟨k, rfl, hk, rfl⟩
  have HK := Aside0.mk hk
  clear hk
  go_wp2
  go_ret
  exact ⟨by rw [← HK.out]; rfl, rfl⟩

/-- does any element fail? -/
def anyBad (l : List Int) : Bool := l.any badW
set_option maxHeartbeats 1600000 in
set_option maxRecDepth 100000 in
theorem index_calls (A : Option Addr) (c : Nat) (l : List Int) (w : World) (hl : l.length ≤ 100000) (hc : l.length ≤ c) (hu : u64s l) (hr : Kd.C (Kd.int .u64) w A l.length l) :
    Calls Tryz.prog 51 #[.slice A l.length c, .func (.func 27) #[] #[]] w fun e w' => ∃ k : Int, e = .returned (.int .i64 k) ∧ decide (0 ≤ k) = anyBad l ∧ w' = w := by
  have HR := Aside0.mk hr
  have HU := Aside0.mk hu
  clear hr hu
  go_enter Tryz.func51, Tryz.ntmps51
  go_wp2
  go_loop [5, 8] (fun v5 v8 => ∃ i : Nat, i ≤ l.length ∧ v8 = .int .i64 i ∧ Aside0 (anyBad (l.take i) = false)) (fun _ v8 => l.length - (intOf v8).toNat)
  case atStart => exact ⟨0, Nat.zero_le _, rfl, ⟨by simp [anyBad]⟩⟩
  case round =>
    obtain ⟨i, hi, rfl, HS⟩ := hrel
    by_cases hlt : i < l.length
    · have b1 : decide (i < l.length) = true := decide_eq_true hlt
      have b2 : decide ((i : Int) < l.length) = true := decide_eq_true (by omega)
      obtain ⟨ad, rfl, hx⟩ := Kd.at_int HR.out (i : Int) (by omega) (by omega)
      rw [Int.toNat_natCast] at hx
      obtain ⟨x0, x1⟩ := u64s_rd HU.out i
      have e : rd l i = l[i] := by unfold rd; rw [Int.toNat_natCast, List.getD_eq_getElem?_getD, List.getElem?_eq_getElem hlt, Option.getD_some]
      have HN := Aside0.mk (show anyBad (l.take (i + 1)) = badW (rd l i) by
        rw [e]
        unfold anyBad
        rw [List.take_succ_eq_append_getElem hlt, List.any_append, show List.any (l.take i) badW = false from HS.out]
        simp)
      have HM := Aside0.mk (show badW (rd l i) = true → anyBad l = true by
        rw [e]
        intro h
        exact List.any_eq_true.2 ⟨_, List.getElem_mem hlt, h⟩)
      have HC := Aside0.mk (fin1_calls (rd l i) w x0 x1)
      clear e
      generalize rd l i = x at *
      by_cases hz : badW x = true
      · have HA := Aside0.mk (HM.out hz)
        rw [hz] at HC
        clear HM HN hz
        go_wp2_with (first | (go_at_call 27; (with_reducible refine HC.out.mono ?_); rintro e w' ⟨rfl, rfl⟩))
        go_ret
        exact ⟨_, rfl, by rw [HA.out]; exact decide_eq_true (by omega), rfl⟩
      · have hz' : badW x = false := by simpa using hz
        rw [hz'] at HC HN
        clear HM hz hz'
        go_wp2_with (first | (go_at_call 27; (with_reducible refine HC.out.mono ?_); rintro e w' ⟨rfl, rfl⟩))
        go_round
        case rel => exact ⟨i + 1, by omega, by first | rfl | go_num, HN⟩
        case measure => (simp [intOf] <;> omega)
    · obtain rfl : i = l.length := by omega
      have b1 : decide (l.length < l.length) = false := by simp
      have b2 : decide ((l.length : Int) < l.length) = false := by simp
      have HE := Aside0.mk (show anyBad l = false by
        have h := HS.out
        rwa [List.take_length] at h)
      go_wp2
      go_ret
      exact ⟨_, rfl, by rw [HE.out]; rfl, rfl⟩

set_option maxHeartbeats 1600000 in
theorem contains_calls (A : Option Addr) (c : Nat) (l : List Int) (w : World) (hl : l.length ≤ 100000) (hc : l.length ≤ c) (hu : u64s l) (hr : Kd.C (Kd.int .u64) w A l.length l) :
    Calls Tryz.prog 26 #[.slice A l.length c, .func (.func 27) #[] #[]] w fun e w' => e = .returned (.bool (anyBad l)) ∧ w' = w := by
  have HR := Aside0.mk hr
  have HU := Aside0.mk hu
  clear hr hu
  go_enter Tryz.func26, Tryz.ntmps26
  go_wp2_with fail
  refine (index_calls A c l w hl hc HU.out HR.out).mono ?_
  rintro e w1 ⟨k, rfl, hk, rfl⟩
  have HK := Aside0.mk (show decide (k ≥ 0) = anyBad l from hk)
  clear hk
  go_wp2
  go_ret
  exact ⟨by rw [← HK.out]; rfl, rfl⟩

def sideB (n : Int) : Bool := decide (1 ≤ n) && decide (n ≤ 64)
set_option maxHeartbeats 1600000 in
theorem side_calls (n : Int) (w : World) : Calls Tryz.prog 50 #[.int .i64 n] w fun e w' => e = .returned (.bool (sideB n)) ∧ w' = w := by
  by_cases h : 1 ≤ n
  · have b1 : decide (n ≥ 1) = true := decide_eq_true h
    have b2 : decide (1 ≤ n) = true := decide_eq_true h
    go_enter Tryz.func50, Tryz.ntmps50
    go_wp2
    go_ret
    exact ⟨by unfold sideB; rw [b2]; rfl, rfl⟩
  · have b1 : decide (n ≥ 1) = false := decide_eq_false (by omega)
    have b2 : decide (1 ≤ n) = false := decide_eq_false (by omega)
    go_enter Tryz.func50, Tryz.ntmps50
    go_wp2
    go_ret
    exact ⟨by unfold sideB; rw [b2]; rfl, rfl⟩

/-- may a matrix be? -/
def fits (r c : Int) (n : Nat) : Bool := sideB r && (sideB c && decide ((n : Int) = r * c))
theorem sideB_iff {n : Int} : sideB n = true ↔ 1 ≤ n ∧ n ≤ 64 := by unfold sideB; simp
theorem fits_le {r c : Int} {n : Nat} (h : fits r c n = true) : n ≤ 4096 := by
  unfold fits at h
  rw [Bool.and_eq_true, Bool.and_eq_true, sideB_iff, sideB_iff, decide_eq_true_iff] at h
  obtain ⟨⟨p0, p1⟩, ⟨q0, q1⟩, h⟩ := h
  have := Int.mul_le_mul p1 q1 (by omega) (by omega)
  omega
set_option maxHeartbeats 1600000 in
set_option maxRecDepth 100000 in
theorem shape_calls (r k : Int) (A : Option Addr) (c n : Nat) (w : World) :
    Calls Tryz.prog 25 #[.agg #[.int .i64 r, .int .i64 k, .slice A n c]] w fun e w' => e = .returned (.int .i64 (if fits r k n then 0 else 11)) ∧ Below w.heap.size w w' := by
  obtain ⟨R, hR⟩ : ∃ R : Int, (if fits r k n then 0 else 11) = R := ⟨_, rfl⟩
  rw [hR]
  have HRR := Aside0.mk hR
  clear hR
  obtain ⟨wL, hwL⟩ : ∃ wL : World, wL = w.alloc (.cells #[.int .i64 r, .int .i64 k, .slice A n c] 24) := ⟨_, rfl⟩
  have HB := Aside0.mk (show Below w.heap.size w wL by rw [hwL]; exact (Below.refl w.heap.size w).alloc (Nat.le_refl _) _)
  have HY := Aside0.mk (show wL.heap[w.heap.size]? = some (.cells #[.int .i64 r, .int .i64 k, .slice A n c] 24 (0, 0)) by rw [hwL]; exact World.alloc_heap_new w _)
  have a0 : wL.cell? ⟨w.heap.size, 0, none⟩ = some (.int .i64 r) := blk_cell HY.out 0
  have a1 : wL.cell? ⟨w.heap.size, 1, none⟩ = some (.int .i64 k) := blk_cell HY.out 1
  have a2 : wL.cell? ⟨w.heap.size, 2, none⟩ = some (.slice A n c) := blk_cell HY.out 2
  have HF := Aside0.mk (show fits r k n = (sideB r && (sideB k && decide ((n : Int) = r * k))) from rfl)
  have HSB := Aside0.mk (show ∀ x, sideB x = true → 1 ≤ x ∧ x ≤ 64 by intro x; unfold sideB; simp)
  go_enter Tryz.func25, Tryz.ntmps25
  go_wp2_with fail
  rw [← hwL]
  clear hwL
  refine (side_calls r wL).mono ?_
  rintro e w1 ⟨rfl, rfl⟩
  by_cases h1 : sideB r = true
  · rw [h1] at HF ⊢
    go_wp2_with fail
    refine (side_calls k w1).mono ?_
    rintro e w2 ⟨rfl, rfl⟩
    by_cases h2 : sideB k = true
    · rw [h2] at HF ⊢
      obtain ⟨p0, p1⟩ := HSB.out r h1
      obtain ⟨q0, q1⟩ := HSB.out k h2
      clear h1 h2
      have m0 : 0 ≤ r * k := Int.mul_nonneg (by omega) (by omega)
      have m1 : r * k ≤ 4096 := by
        have := Int.mul_le_mul p1 q1 (by omega) (by omega)
        omega
      generalize hm : r * k = m at *
      by_cases h3 : (n : Int) = m
      · have HF2 := Aside0.mk (show fits r k n = true by rw [HF.out, decide_eq_true h3]; rfl)
        have b3 : ((n : Int) != m) = false := by simp [h3]
        clear h3 HF
        go_wp2
        go_ret
        exact ⟨by rw [← HRR.out, HF2.out]; rfl, HB.out⟩
      · have HF2 := Aside0.mk (show fits r k n = false by rw [HF.out, decide_eq_false h3]; rfl)
        have b3 : ((n : Int) != m) = true := by simp [h3]
        clear h3 HF
        go_wp2
        go_ret
        exact ⟨by rw [← HRR.out, HF2.out]; rfl, HB.out⟩
    · have h2' : sideB k = false := by simpa using h2
      rw [h2'] at HF ⊢
      go_wp2
      go_ret
      exact ⟨by rw [← HRR.out, HF.out]; rfl, HB.out⟩
  · have h1' : sideB r = false := by simpa using h1
    rw [h1'] at HF ⊢
    go_wp2
    go_ret
    exact ⟨by rw [← HRR.out, HF.out]; rfl, HB.out⟩

/-- are all words? -/
def finF (r k : Int) (l : List Int) : Int := if fits r k l.length then (if anyBad l then 12 else 0) else 11
set_option maxHeartbeats 1600000 in
set_option maxRecDepth 100000 in
theorem finite_calls (r k : Int) (A : Option Addr) (c : Nat) (l : List Int) (w : World) (hc : l.length ≤ c) (hu : u64s l) (hr : Kd.C (Kd.int .u64) w A l.length l) :
    Calls Tryz.prog 9 #[.agg #[.int .i64 r, .int .i64 k, .slice A l.length c]] w fun e w' => e = .returned (.int .i64 (finF r k l)) ∧ Below w.heap.size w w' := by
  obtain ⟨R, hR⟩ : ∃ R : Int, finF r k l = R := ⟨_, rfl⟩
  rw [hR]
  have HF := Aside0.mk (show R = if fits r k l.length then (if anyBad l then 12 else 0) else 11 by rw [← hR]; rfl)
  clear hR
  obtain ⟨wL, hwL⟩ : ∃ wL : World, wL = w.alloc (.cells #[.int .i64 r, .int .i64 k, .slice A l.length c] 24) := ⟨_, rfl⟩
  have hB : Below w.heap.size w wL := by rw [hwL]; exact (Below.refl w.heap.size w).alloc (Nat.le_refl _) _
  have hY : wL.heap[w.heap.size]? = some (.cells #[.int .i64 r, .int .i64 k, .slice A l.length c] 24 (0, 0)) := by rw [hwL]; exact World.alloc_heap_new w _
  have a0 : wL.cell? ⟨w.heap.size, 0, none⟩ = some (.int .i64 r) := blk_cell hY 0
  have a1 : wL.cell? ⟨w.heap.size, 1, none⟩ = some (.int .i64 k) := blk_cell hY 1
  have a2 : wL.cell? ⟨w.heap.size, 2, none⟩ = some (.slice A l.length c) := blk_cell hY 2
  have HU := Aside0.mk hu
  have HR := Aside0.mk (Kd.C_below hr hB)
  have HB := Aside0.mk hB
  have HY := Aside0.mk hY
  clear hB hY hr hu
  go_enter Tryz.func9, Tryz.ntmps9
  go_wp2_with fail
  rw [← hwL]
  clear hwL
  refine (shape_calls r k A c l.length wL).mono ?_
  rintro e w1 ⟨rfl, hB1⟩
  have hY1 : w1.heap[w.heap.size]? = some (.cells #[.int .i64 r, .int .i64 k, .slice A l.length c] 24 (0, 0)) := (hB1.block _ (blk_lt HY.out)).trans HY.out
  have c2 : w1.cell? ⟨w.heap.size, 2, none⟩ = some (.slice A l.length c) := blk_cell hY1 2
  have HR1 := Aside0.mk (Kd.C_below HR.out hB1)
  have HB1 := Aside0.mk (below_step HB.out hB1)
  clear hB1 hY1 HR HB HY
  by_cases h1 : fits r k l.length = true
  · have hl : l.length ≤ 100000 := by have := fits_le h1; omega
    rw [h1] at HF ⊢
    go_wp2_with fail
    refine (contains_calls A c l w1 hl hc HU.out HR1.out).mono ?_
    rintro e w2 ⟨rfl, rfl⟩
    by_cases h2 : anyBad l = true
    · rw [h2] at HF ⊢
      go_wp2
      go_ret
      exact ⟨by rw [HF.out]; rfl, HB1.out⟩
    · have h2' : anyBad l = false := by simpa using h2
      rw [h2'] at HF ⊢
      go_wp2
      go_ret
      exact ⟨by rw [HF.out]; rfl, HB1.out⟩
  · have h1' : fits r k l.length = false := by simpa using h1
    rw [h1'] at HF ⊢
    go_wp2
    go_ret
    exact ⟨by rw [HF.out]; rfl, HB1.out⟩
end Go.Proofs.YtmbdbkcifmkpbaaGreatDoor.OwnA
end
