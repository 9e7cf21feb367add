/- Parts of the proof, joined: What a list of limbs is worth: plain facts, without the program. Sums and differences of limbs; a sum with nothing. Products of limbs. Numbers that are not below 0, between bounds: a multiple of 2^lo, below 2^hi. -/
import Derived.Test.YtmbdbkcifmkpbaaGreatDoorCLC
import Derived.Laws.BitsLemmas
import Derived.Lib.TrailingZeros
import Derived.Lib.Mul64
section
set_option linter.unusedVariables false
set_option linter.unusedSimpArgs false
namespace Go.Proofs.YtmbdbkcifmkpbaaGreatDoor.Den
open Go
open Go.Proofs.YtmbdbkcifmkpbaaGreatDoor.OwnA
open Go.Proofs.YtmbdbkcifmkpbaaGreatDoorW.PrintWords (rd mn)
def val : List Int → Int
  | [] => 0
  | x :: l => x + 18446744073709551616 * val l
theorem u64s_tail {x : Int} {l : List Int} (h : u64s (x :: l)) : u64s l := fun y hy => h y (List.mem_cons_of_mem _ hy)
theorem u64s_head {x : Int} {l : List Int} (h : u64s (x :: l)) : 0 ≤ x ∧ x < 18446744073709551616 := h x (List.mem_cons_self ..)
theorem pwB (n : Nat) : (0 : Int) < 18446744073709551616 ^ n := Int.pow_pos (by omega)
theorem val_bd : ∀ {l : List Int}, u64s l → 0 ≤ val l ∧ val l < 18446744073709551616 ^ l.length := by
  intro l
  induction l with
  | nil => intro _; simp [val]
  | cons x l ih =>
    intro h
    have hx := u64s_head h
    have hl := ih (u64s_tail h)
    simp only [val, List.length_cons, Int.pow_succ]
    omega
theorem val_append (l m : List Int) : val (l ++ m) = val l + 18446744073709551616 ^ l.length * val m := by
  induction l with
  | nil => simp [val]
  | cons x l ih => simp only [List.cons_append, val, ih, List.length_cons, Int.pow_succ]; grind
theorem val_zeros (n : Nat) : val (List.replicate n 0) = 0 := by
  induction n with
  | zero => rfl
  | succ n ih => simp [List.replicate_succ, val, ih]
theorem rd_get (l : List Int) (i : Nat) : rd l (i : Int) = l.getD i 0 := by simp [rd]
theorem take_succ_val {l : List Int} {i : Nat} (h : i < l.length) : val (l.take (i + 1)) = val (l.take i) + rd l i * 18446744073709551616 ^ i := by
  have e : l.take (i + 1) = l.take i ++ [rd l i] := by
    rw [List.take_succ_eq_append_getElem h]; congr 1
    rw [rd_get, List.getD_eq_getElem?_getD, List.getElem?_eq_getElem h]; rfl
  rw [e, val_append, List.length_take, Nat.min_eq_left (by omega)]
  simp only [val]; grind
theorem size_val (l : List Int) : ∀ n, n ≤ l.length → val (l.take (sizeF l n)) = val (l.take n)
  | 0, _ => rfl
  | n + 1, h => by
    unfold sizeF
    split
    · rename_i hz
      rw [size_val l n (by omega), take_succ_val (by omega), hz]; omega
    · rfl
theorem val_norm (l : List Int) : val (normF l) = val l := by
  unfold normF
  rw [size_val l _ (Nat.le_refl _), List.take_of_length_le (Nat.le_refl _)]
/-- no zero at the upper end -/
def tp (l : List Int) : Prop := sizeF l l.length = l.length
theorem tp_norm (l : List Int) : tp (normF l) := by unfold tp; rw [normF_sizeF, normF_size]
theorem tp_last {x : Int} {l : List Int} (h : tp (x :: l)) : rd (x :: l) (l.length : Int) ≠ 0 := by
  unfold tp at h
  rw [List.length_cons, sizeF] at h
  split at h
  · have := sizeF_le (x :: l) l.length
    omega
  · assumption
theorem tp_tail {x : Int} {l : List Int} (h : tp (x :: l)) : tp l := by
  have h1 := tp_last h
  cases l with
  | nil => rfl
  | cons y m =>
    unfold tp
    rw [List.length_cons, rd_consS] at h1
    rw [List.length_cons, sizeF, if_neg h1]
theorem tp_zero : ∀ {l : List Int}, u64s l → tp l → val l = 0 → l = []
  | [], _, _, _ => rfl
  | x :: l, hu, ht, hv => by
    have hx := u64s_head hu
    have hb := (val_bd (u64s_tail hu)).1
    rw [val] at hv
    have h0 : val l = 0 := by omega
    have hl := tp_zero (u64s_tail hu) (tp_tail ht) h0
    subst hl
    have := tp_last ht
    rw [List.length_nil, rd_cons0] at this
    simp only [val] at hv
    omega
/-! shifts -/
theorem wraps_u64 (n : Int) (h₀ : 0 ≤ n) (h₁ : n < 2 ^ 64) : IntKind.u64.wrap n = n := by
  have e' : (2 : Int) ^ 64 = 18446744073709551616 := by rfl
  rw [e'] at h₁
  rw [IntKind.wrap_u64]; omega
theorem or_sum {a b : Int} (s : Nat) (a0 : 0 ≤ a) (a1 : a < 18446744073709551616) (ha : a % 2 ^ s = 0) (b0 : 0 ≤ b) (b1 : b < 18446744073709551616) (hb : b < 2 ^ s) : bits .or .u64 a b = a + b := by
  have e' : (2 : Int) ^ 64 = 18446744073709551616 := by rfl
  exact bits_join .u64 64 (by decide) wraps_u64 s a b a0 ha (by rw [e']; exact a1) b0 hb (by rw [e']; exact b1)
theorem pow_split {s : Nat} (h : s ≤ 63) : (2 : Int) ^ s * 2 ^ (63 - s) * 2 = 18446744073709551616 := by
  rw [← Int.pow_add, ← Int.pow_succ, show (s + (63 - s)).succ = 64 by omega]; rfl
/-- a limb that is shifted up: what stays, and what goes on -/
theorem shl_limb {x c : Int} {s : Nat} (hs : s ≤ 63) (x0 : 0 ≤ x) (x1 : x < 18446744073709551616) (c0 : 0 ≤ c) (c1 : c < 2 ^ s) :
    shlW x s c + 18446744073709551616 * shlC x s = x * 2 ^ s + c ∧ 0 ≤ shlC x s ∧ shlC x s < 2 ^ s := by
  have hP := pow_split hs
  have p0 : (0 : Int) < 2 ^ s := Int.pow_pos (by omega)
  have q0 : (0 : Int) < 2 ^ (63 - s) := Int.pow_pos (by omega)
  have hle : (2 : Int) ^ s ≤ 9223372036854775808 := by
    have := Int.mul_le_mul_of_nonneg_left (show (1 : Int) ≤ 2 ^ (63 - s) by omega) (Int.le_of_lt p0)
    omega
  have hC : shlC x s = x / (2 ^ (63 - s) * 2) := by
    unfold shlC
    rw [Int.ediv_ediv_of_nonneg (by omega : (0:Int) ≤ 2), Int.mul_comm 2]
  have hx := Int.emod_add_mul_ediv x (2 ^ (63 - s) * 2)
  have hm0 := Int.emod_nonneg x (show (2 : Int) ^ (63 - s) * 2 ≠ 0 by omega)
  have hm1 := Int.emod_lt_of_pos x (show (0 : Int) < 2 ^ (63 - s) * 2 by omega)
  obtain ⟨q, hq⟩ : ∃ q, x / (2 ^ (63 - s) * 2) = q := ⟨_, rfl⟩
  obtain ⟨r, hr⟩ : ∃ r, x % (2 ^ (63 - s) * 2) = r := ⟨_, rfl⟩
  rw [hq, hr] at hx
  rw [hr] at hm0 hm1
  have hPs : (2 : Int) ^ s * (2 ^ (63 - s) * 2) = 18446744073709551616 := by rw [← Int.mul_assoc]; exact hP
  have e1 : x * 2 ^ s = r * 2 ^ s + 18446744073709551616 * q := by
    rw [← hx, ← hPs]; grind
  have r0 : 0 ≤ r * 2 ^ s := Int.mul_nonneg hm0 (Int.le_of_lt p0)
  have r1 : r * 2 ^ s < 18446744073709551616 := by
    rw [← hPs, Int.mul_comm]
    exact Int.mul_lt_mul_of_pos_left hm1 p0
  have hw : IntKind.u64.wrap (x * 2 ^ s) = r * 2 ^ s := by
    rw [IntKind.wrap_u64, e1]; omega
  have hq0 : 0 ≤ q := by rw [← hq]; exact Int.ediv_nonneg x0 (by omega)
  have hq1 : q < 2 ^ s := by
    rw [← hq]
    refine Int.ediv_lt_of_lt_mul (by omega) ?_
    rw [hPs]; exact x1
  refine ⟨?_, by rw [hC, hq]; exact hq0, by rw [hC, hq]; exact hq1⟩
  unfold shlW
  rw [hw, or_sum s r0 r1 (Int.mul_emod_left ..) c0 (by omega) c1, hC, hq, e1]
  omega
theorem val_shlL {s : Nat} (hs : s ≤ 63) : ∀ (l : List Int) (c : Int), u64s l → 0 ≤ c → c < 2 ^ s → val (shlL s l c) = val l * 2 ^ s + c
  | [], c, _, _, _ => by simp [shlL, val]
  | x :: l, c, hu, c0, c1 => by
    have hx := u64s_head hu
    obtain ⟨h1, h2, h3⟩ := shl_limb hs hx.1 hx.2 c0 c1
    rw [shlL, val, val, val_shlL hs l _ (u64s_tail hu) h2 h3]
    grind
theorem powB (a : Nat) : (18446744073709551616 : Int) ^ a = 2 ^ (64 * a) := by rw [Int.pow_mul]; rfl
theorem val_shl {l : List Int} {n : Int} (h0 : 0 ≤ n) (hu : u64s l) : val (shlF l n) = val l * 2 ^ n.toNat := by
  unfold shlF
  rw [val_norm, val_append, val_zeros, val_shlL (by omega) l 0 hu (by omega) (Int.pow_pos (by omega)), List.length_replicate, powB]
  have e : n.toNat = 64 * (n / 64).toNat + (n % 64).toNat := by omega
  rw [e, Int.pow_add]
  grind
/-- a limb that is shifted down -/
theorem shr_limb {x y : Int} {s : Nat} (hs : s ≤ 63) (x0 : 0 ≤ x) (x1 : x < 18446744073709551616) (y0 : 0 ≤ y) (y1 : y < 18446744073709551616) :
    shrW s x y = x / 2 ^ s + (y % 2 ^ s) * (2 ^ (63 - s) * 2) := by
  have hP := pow_split hs
  have p0 : (0 : Int) < 2 ^ s := Int.pow_pos (by omega)
  have q0 : (0 : Int) < 2 ^ (63 - s) := Int.pow_pos (by omega)
  have hPs : (2 : Int) ^ s * (2 ^ (63 - s) * 2) = 18446744073709551616 := by rw [← Int.mul_assoc]; exact hP
  have hy := Int.emod_add_mul_ediv y (2 ^ s)
  have hm0 := Int.emod_nonneg y (show (2 : Int) ^ s ≠ 0 by omega)
  have hm1 := Int.emod_lt_of_pos y p0
  obtain ⟨q, hq⟩ : ∃ q, y / 2 ^ s = q := ⟨_, rfl⟩
  obtain ⟨r, hr⟩ : ∃ r, y % 2 ^ s = r := ⟨_, rfl⟩
  rw [hq, hr] at hy
  rw [hr] at hm0 hm1 ⊢
  have t0 : 0 ≤ r * (2 ^ (63 - s) * 2) := Int.mul_nonneg hm0 (by omega)
  have t1 : r * (2 ^ (63 - s) * 2) < 18446744073709551616 := by
    rw [← hPs]
    exact Int.mul_lt_mul_of_pos_right hm1 (by omega)
  have hw : IntKind.u64.wrap (IntKind.u64.wrap (y * 2) * 2 ^ (63 - s)) = r * (2 ^ (63 - s) * 2) := by
    rw [IntKind.wrap_u64, IntKind.wrap_u64]
    have e0 : y * 2 % 18446744073709551616 * 2 ^ (63 - s) = y * 2 * 2 ^ (63 - s) + 18446744073709551616 * (-(y * 2 / 18446744073709551616 * 2 ^ (63 - s))) := by
      rw [Int.emod_def]; grind
    have e1 : y * 2 * 2 ^ (63 - s) = r * (2 ^ (63 - s) * 2) + 18446744073709551616 * q := by
      rw [← hy, ← hPs]; grind
    rw [e0, e1]; omega
  have d0 : 0 ≤ x / 2 ^ s := Int.ediv_nonneg x0 (by omega)
  have d1 : x / 2 ^ s < 2 ^ (63 - s) * 2 := Int.ediv_lt_of_lt_mul p0 (by rw [Int.mul_comm, hPs]; exact x1)
  have k1 : (2 : Int) ^ (63 - s) * 2 ≤ 18446744073709551616 := by
    have := Int.mul_le_mul_of_nonneg_right (show (1 : Int) ≤ 2 ^ s by omega) (show (0 : Int) ≤ 2 ^ (63 - s) * 2 by omega)
    omega
  unfold shrW
  have hc : ∀ a b : Int, bits .or .u64 a b = bits .or .u64 b a := fun a b => by
    unfold bits
    simp only [BitVec.or_comm]
  rw [hw, hc, or_sum (63 - s + 1) t0 t1 (by rw [Int.pow_succ]; exact Int.mul_emod_left ..) d0 (by omega) (by rw [Int.pow_succ]; exact d1)]
  omega
theorem val_shrL {s : Nat} (hs : s ≤ 63) : ∀ (l : List Int), u64s l → val (OwnA.shrL s l) = val l / 2 ^ s
  | [], _ => by simp [OwnA.shrL, val]
  | [x], _ => by simp [OwnA.shrL, val]
  | x :: y :: l, hu => by
    have hx := u64s_head hu
    have hy := u64s_head (u64s_tail hu)
    have p0 : (0 : Int) < 2 ^ s := Int.pow_pos (by omega)
    have hPs : (2 : Int) ^ s * (2 ^ (63 - s) * 2) = 18446744073709551616 := by rw [← Int.mul_assoc]; exact pow_split hs
    obtain ⟨K, hK⟩ : ∃ K : Int, 2 ^ (63 - s) * 2 = K := ⟨_, rfl⟩
    rw [OwnA.shrL, val, val_shrL hs _ (u64s_tail hu), shr_limb hs hx.1 hx.2 hy.1 hy.2]
    rw [hK] at hPs ⊢
    have hV : val (y :: l) % 2 ^ s = y % 2 ^ s := by
      rw [val, ← hPs, Int.mul_assoc, Int.add_mul_emod_self_left]
    rw [show val (x :: y :: l) = x + 18446744073709551616 * val (y :: l) from rfl]
    have hd := Int.emod_add_mul_ediv (val (y :: l)) (2 ^ s)
    rw [hV] at hd
    obtain ⟨V, hv⟩ : ∃ V, val (y :: l) = V := ⟨_, rfl⟩
    rw [hv] at hd ⊢
    obtain ⟨q, hq⟩ : ∃ q, V / 2 ^ s = q := ⟨_, rfl⟩
    obtain ⟨r, hr⟩ : ∃ r, y % 2 ^ s = r := ⟨_, rfl⟩
    rw [hq, hr] at hd
    rw [hq, hr, ← hPs, Int.mul_assoc (2 ^ s) K V, Int.add_mul_ediv_left _ _ (by omega), ← hd]
    grind
theorem u64s_drop {l : List Int} (h : u64s l) (n : Nat) : u64s (l.drop n) := fun y hy => h y (List.mem_of_mem_drop hy)
theorem val_drop {l : List Int} (hu : u64s l) {k : Nat} (hk : k ≤ l.length) : val (l.drop k) = val l / 18446744073709551616 ^ k := by
  have h1 : val l = val (l.take k) + 18446744073709551616 ^ k * val (l.drop k) := by
    have := val_append (l.take k) (l.drop k)
    rw [List.take_append_drop, List.length_take, Nat.min_eq_left hk] at this
    exact this
  have h2 := val_bd (u64s_take hu k)
  rw [List.length_take, Nat.min_eq_left hk] at h2
  rw [h1, Int.add_mul_ediv_left _ _ (by have := pwB k; omega), Int.ediv_eq_zero_of_lt h2.1 h2.2]
  omega
theorem pw_le {a b : Nat} (h : a ≤ b) : (2 : Int) ^ a ≤ 2 ^ b := by
  obtain ⟨c, rfl⟩ := Nat.le.dest h
  rw [Int.pow_add]
  have h0 : (0 : Int) < 2 ^ c := Int.pow_pos (by omega)
  have h2 : (0 : Int) < 2 ^ a := Int.pow_pos (by omega)
  have h1 := Int.mul_le_mul_of_nonneg_left (a := 1) (b := (2 : Int) ^ c) (c := 2 ^ a) (by omega) (Int.le_of_lt h2)
  omega
theorem val_shr {l : List Int} {n : Int} (h0 : 0 ≤ n) (hu : u64s l) : val (OwnA.shrF l n) = val l / 2 ^ n.toNat := by
  unfold OwnA.shrF
  have hb := val_bd hu
  by_cases h : l.length ≤ (n / 64).toNat
  · rw [if_pos h]
    rw [powB] at hb
    have := pw_le (show 64 * l.length ≤ n.toNat by omega)
    rw [Int.ediv_eq_zero_of_lt hb.1 (by omega)]
    rfl
  · rw [if_neg h, val_norm, val_shrL (by omega) _ (u64s_drop hu _), val_drop hu (by omega), powB]
    have e : n.toNat = 64 * (n / 64).toNat + (n % 64).toNat := by omega
    rw [e, Int.pow_add, Int.ediv_ediv_of_nonneg (by have : (0:Int) < 2 ^ (64 * (n / 64).toNat) := Int.pow_pos (by omega); omega)]
/-! zeros at the lower end -/
theorem zerosGo_spec : ∀ (l : List Int) (i : Nat), u64s l → val l ≠ 0 → ∃ (k : Nat) (m : Int), zerosGo l i = 64 * (i : Int) + k ∧ val l = 2 ^ k * (2 * m + 1)
  | [], _, _, h => absurd rfl h
  | x :: l, i, hu, h => by
    have hx := u64s_head hu
    rw [zerosGo]
    by_cases h0 : x = 0
    · rw [if_pos h0]
      rw [val, h0] at h ⊢
      obtain ⟨k, m, e1, e2⟩ := zerosGo_spec l (i + 1) (u64s_tail hu) (by omega)
      refine ⟨64 + k, m, by rw [e1]; omega, ?_⟩
      rw [e2, Int.pow_add, show (2 : Int) ^ 64 = 18446744073709551616 by rfl, Int.mul_assoc]
      omega
    · rw [if_neg h0]
      obtain ⟨m, e1, e2⟩ := Lib.ctzFrom_spec 64 x.toNat (by omega) (by omega)
      have hc : Lib.ctz 64 x.toNat = Lib.ctzFrom 64 x.toNat := by unfold Lib.ctz; rw [if_neg (by omega)]
      rw [hc]
      obtain ⟨c, hcc⟩ : ∃ c, Lib.ctzFrom 64 x.toNat = c := ⟨_, rfl⟩
      rw [hcc] at e1 e2 ⊢
      have hxi : x = 2 ^ c * (2 * (m : Int) + 1) := by
        have := congrArg (fun n : Nat => (n : Int)) e1
        simp only [Int.natCast_mul, Int.natCast_pow, Int.natCast_add] at this
        rw [Int.toNat_of_nonneg hx.1] at this
        exact this
      refine ⟨c, m + 2 ^ (63 - c) * val l, rfl, ?_⟩
      have hP := pow_split (s := c) (by omega)
      rw [val, hxi, ← hP]
      grind
theorem zeros_spec {l : List Int} (hu : u64s l) (h : val l ≠ 0) : ∃ (k : Nat) (m : Int), zerosF l = k ∧ val l = 2 ^ k * (2 * m + 1) := by
  obtain ⟨k, m, e1, e2⟩ := zerosGo_spec l 0 hu h
  exact ⟨k, m, by unfold zerosF; rw [e1]; omega, e2⟩
theorem val_shrLoop : ∀ (k : Nat) (l : List Int) (n : Int), u64s l → n ≤ 65536 * k → val (shrLoop k l n) = val l / 2 ^ n.toNat
  | 0, l, n, _, hn => by
    rw [shrLoop, show n.toNat = 0 by omega]; simp
  | k + 1, l, n, hu, hn => by
    rw [shrLoop]
    by_cases h : 0 < n
    · rw [if_pos h]
      have hm : mn n 65536 = if 65536 < n then 65536 else n := rfl
      have hm0 : 0 ≤ mn n 65536 := by rw [hm]; split <;> omega
      rw [val_shrLoop k _ _ (OwnA.shrF_u64 hu _) (by omega), val_shr hm0 hu, Int.ediv_ediv_of_nonneg (Int.le_of_lt (Int.pow_pos (by omega))), ← Int.pow_add]
      congr 2
      rw [hm]; split <;> omega
    · rw [if_neg h, show n.toNat = 0 by omega]; simp
theorem size_zero {l : List Int} (hu : u64s l) : sizeF l l.length = 0 ↔ val l = 0 := by
  constructor
  · intro h
    rw [← val_norm]; unfold normF; rw [h]; rfl
  · intro h
    have := tp_zero (normF_u64 hu) (tp_norm l) (by rw [val_norm]; exact h)
    rw [← normF_size, this]; rfl
/-- A number as it is told, if it is not 0. -/
theorem told_spec (n : Bool) {l : List Int} (x : Int) (hu : u64s l) (hl : l.length ≤ 100000) (h : val l ≠ 0) : ∃ (k : Nat) (m : Int) (t : List Int), val l = 2 ^ k * (2 * m + 1) ∧ u64s t ∧ tp t ∧ val t = 2 * m + 1 ∧
    toldF n l x = if checkF t (x + k) = 0 then ⟨n, t, x + k, 0⟩ else ⟨false, [], 0, 4⟩ := by
  obtain ⟨k, m, e1, e2⟩ := zeros_spec hu h
  have hz := (zerosGo_bd l 0 hu).2
  change zerosF l < _ at hz
  have hk : (k : Int) < 64 * l.length + 1 := by rw [← e1]; omega
  have ht : val (normF (shrLoop 200 l (zerosF l))) = 2 * m + 1 := by
    rw [val_norm, val_shrLoop 200 l _ hu (by omega), e1, e2, Int.toNat_natCast, Int.mul_ediv_cancel_left _ (Int.ne_of_gt (Int.pow_pos (by omega)))]
  refine ⟨k, m, _, e2, normF_u64 (shrLoop_u64 200 l _ hu), tp_norm _, ht, ?_⟩
  unfold toldF
  have hs : signF n l ≠ 0 := by
    unfold signF
    rw [if_neg (fun e => h ((size_zero hu).1 e))]
    cases n <;> simp
  rw [if_neg hs, e1]
theorem told_zero (n : Bool) {l : List Int} (x : Int) (hu : u64s l) (h : val l = 0) : toldF n l x = ⟨false, [], 0, 0⟩ := by
  unfold toldF
  rw [if_pos]
  unfold signF
  rw [if_pos ((size_zero hu).2 h)]
end Go.Proofs.YtmbdbkcifmkpbaaGreatDoor.Den
end
section
set_option linter.unusedVariables false
set_option linter.unusedSimpArgs false
namespace Go.Proofs.YtmbdbkcifmkpbaaGreatDoor.Den
open Go
open Go.Proofs.YtmbdbkcifmkpbaaGreatDoor.OwnA
open Go.Proofs.YtmbdbkcifmkpbaaGreatDoorW.PrintWords (rd mn)
theorem atF_rd (l : List Int) (i : Nat) : atF l i = rd l i := by
  unfold atF
  split
  · rfl
  · rw [rd_get, List.getD_eq_getElem?_getD, List.getElem?_eq_none (by omega)]; rfl
def vA (l : List Int) : Nat → Nat → Int
  | _, 0 => 0
  | i, n + 1 => atF l i + 18446744073709551616 * vA l (i + 1) n
theorem vA_all (l : List Int) : ∀ n i, l.length ≤ i + n → vA l i n = val (l.drop i)
  | 0, i, h => by rw [List.drop_eq_nil_of_le (by omega)]; rfl
  | n + 1, i, h => by
    rw [vA, vA_all l n (i + 1) (by omega)]
    by_cases hi : i < l.length
    · rw [List.drop_eq_getElem_cons hi, val, atF_rd, rd_get, List.getD_eq_getElem?_getD, List.getElem?_eq_getElem hi]; rfl
    · rw [List.drop_eq_nil_of_le (by omega), List.drop_eq_nil_of_le (by omega)]
      unfold atF
      rw [if_neg hi]; rfl
theorem addL_val {a b : List Int} (ha : u64s a) (hb : u64s b) : ∀ (n i : Nat) (c : Int), 0 ≤ c → ∃ c', 0 ≤ c' ∧ val (addL a b i n c) + 18446744073709551616 ^ n * c' = vA a i n + vA b i n + c
  | 0, i, c, h => ⟨c, h, by simp [addL, val, vA]⟩
  | n + 1, i, c, h => by
    have x := atF_bd ha i
    have y := atF_bd hb i
    obtain ⟨t, ht⟩ : ∃ t, atF a i + atF b i + c = t := ⟨_, rfl⟩
    obtain ⟨c', h0, h1⟩ := addL_val ha hb n (i + 1) (t / 18446744073709551616) (by omega)
    refine ⟨c', h0, ?_⟩
    rw [addL, ht, val, vA, vA, Int.pow_succ]
    have h2 := Int.emod_add_mul_ediv t 18446744073709551616
    grind
theorem pwB_le {a b : Nat} (h : a ≤ b) : (18446744073709551616 : Int) ^ a ≤ 18446744073709551616 ^ b := by
  rw [powB, powB]; exact pw_le (by omega)
theorem no_carry {n : Nat} {v c s : Int} (hv : 0 ≤ v) (hc : 0 ≤ c) (hs : s < 18446744073709551616 ^ n) (h : v + 18446744073709551616 ^ n * c = s) : c = 0 := by
  by_cases h0 : c = 0
  · exact h0
  · have := Int.mul_le_mul_of_nonneg_left (a := 1) (b := c) (c := 18446744073709551616 ^ n) (by omega) (Int.le_of_lt (pwB n))
    omega
theorem val_add {a b : List Int} (ha : u64s a) (hb : u64s b) : val (addF a b) = val a + val b := by
  unfold addF
  rw [val_norm]
  obtain ⟨c', h0, h1⟩ := addL_val ha hb (max a.length b.length + 1) 0 0 (by omega)
  rw [vA_all a _ _ (by omega), vA_all b _ _ (by omega), List.drop_zero, List.drop_zero, Int.add_zero] at h1
  have va := val_bd ha
  have vb := val_bd hb
  have pa := pwB_le (show a.length ≤ max a.length b.length by omega)
  have pb := pwB_le (show b.length ≤ max a.length b.length by omega)
  have hu := (val_bd (addL_u64 a b 0 (max a.length b.length + 1) 0)).1
  have hz := no_carry hu h0 (by rw [Int.pow_succ]; omega) h1
  rw [hz] at h1
  omega
theorem subL_val {a b : List Int} (ha : u64s a) (hb : u64s b) : ∀ (n i : Nat) (c : Int), 0 ≤ c → c ≤ 1 → ∃ c', 0 ≤ c' ∧ val (subL a b i n c) = vA a i n - vA b i n - c + 18446744073709551616 ^ n * c'
  | 0, i, c, h, _ => ⟨c, h, by simp [subL, val, vA]; omega⟩
  | n + 1, i, c, h, hc => by
    have x := atF_bd ha i
    have y := atF_bd hb i
    have hb' := borF_bd (rd a i) (atF b i + c)
    obtain ⟨c', h0, h1⟩ := subL_val ha hb n (i + 1) (borF (rd a i) (atF b i + c)) hb'.1 hb'.2
    refine ⟨c', h0, ?_⟩
    rw [subL, val, vA, vA, Int.pow_succ, h1]
    have h2 : (rd a i - atF b i - c) % 18446744073709551616 = rd a i - atF b i - c + 18446744073709551616 * borF (rd a i) (atF b i + c) := by
      rw [atF_rd] at x
      unfold borF
      split <;> omega
    rw [h2, atF_rd a]
    grind
theorem val_subG {a b : List Int} (ha : u64s a) (hb : u64s b) (hl : b.length ≤ a.length) (hv : val b ≤ val a) : val (subG a b) = val a - val b := by
  unfold subG
  rw [val_norm]
  obtain ⟨c', h0, h1⟩ := subL_val ha hb a.length 0 0 (by omega) (by omega)
  rw [vA_all a _ _ (by omega), vA_all b _ _ (by omega), List.drop_zero, List.drop_zero] at h1
  have va := val_bd ha
  have vb := val_bd hb
  have hu := val_bd (subL_u64 a b a.length 0 0)
  rw [subL_len] at hu
  have hz := no_carry (n := a.length) (v := val a - val b) (s := val (subL a b 0 a.length 0)) (by omega) h0 hu.2 (by omega)
  rw [hz] at h1
  omega
/-! a sum with nothing -/
end Go.Proofs.YtmbdbkcifmkpbaaGreatDoor.Den
end
section
set_option linter.unusedVariables false
set_option linter.unusedSimpArgs false
namespace Go.Proofs.YtmbdbkcifmkpbaaGreatDoor.Den
open Go
open Go.Proofs.YtmbdbkcifmkpbaaGreatDoor.OwnA
open Go.Proofs.YtmbdbkcifmkpbaaGreatDoorW.PrintWords (rd mn)
theorem and32 {x : Int} (x0 : 0 ≤ x) (x1 : x < 18446744073709551616) : bits .and .u64 x 4294967295 = x % 4294967296 := by
  have e' : (2 : Int) ^ 64 = 18446744073709551616 := by rfl
  have e1 : (2 : Int) ^ 32 - 1 = 4294967295 := by rfl
  have e2 : (2 : Int) ^ 32 = 4294967296 := by rfl
  have := bits_mask .u64 64 (by decide) wraps_u64 32 (by decide) x x0 (by rw [e']; exact x1)
  rw [e1, e2] at this
  exact this
theorem mul_words {x y : Int} (x0 : 0 ≤ x) (x1 : x < 18446744073709551616) (y0 : 0 ≤ y) (y1 : y < 18446744073709551616) : mulLo x y + 18446744073709551616 * mulHi x y = x * y := by
  obtain ⟨X, rfl⟩ := Int.eq_ofNat_of_zero_le x0
  obtain ⟨Y, rfl⟩ := Int.eq_ofNat_of_zero_le y0
  obtain ⟨h1, h2, h3, h4⟩ := Lib.mul64_hi X Y (by omega) (by omega)
  have e1 : (X : Int) / 4294967296 = ((X / 4294967296 : Nat) : Int) := by omega
  have e2 : (X : Int) % 4294967296 = ((X % 4294967296 : Nat) : Int) := by omega
  have e3 : (Y : Int) / 4294967296 = ((Y / 4294967296 : Nat) : Int) := by omega
  have e4 : (Y : Int) % 4294967296 = ((Y % 4294967296 : Nat) : Int) := by omega
  have b1 := Lib.half_mul_le (a := X / 4294967296) (b := Y / 4294967296) (by omega) (by omega)
  have b2 := Lib.half_mul_le (a := X / 4294967296) (b := Y % 4294967296) (by omega) (by omega)
  have b3 := Lib.half_mul_le (a := X % 4294967296) (b := Y / 4294967296) (by omega) (by omega)
  have e5 : (X : Int) * Y = ((X * Y : Nat) : Int) := by rw [Int.natCast_mul]
  unfold mulHi mulLo
  rw [and32 x0 x1, and32 y0 y1, e1, e2, e3, e4]
  simp only [← Int.natCast_mul]
  generalize X / 4294967296 * (Y / 4294967296) = a at *
  generalize X / 4294967296 * (Y % 4294967296) = b at *
  generalize X % 4294967296 * (Y / 4294967296) = c at *
  generalize X % 4294967296 * (Y % 4294967296) = d at *
  generalize X * Y = p at *
  simp only [IntKind.wrap_u64]
  have f1 : ((d : Int) % 18446744073709551616) = d := by omega
  have f2 : ((b : Int) % 18446744073709551616) = b := by omega
  rw [f1, f2]
  rw [and32 (by omega) (by omega)]
  omega
theorem rd_set_other {l : List Int} {i j : Nat} (x : Int) (h : i ≠ j) : rd (l.set i x) j = rd l j := by
  rw [rd_get, rd_get, List.getD_eq_getElem?_getD, List.getD_eq_getElem?_getD, List.getElem?_set_ne h]
theorem val_set : ∀ (l : List Int) (i : Nat) (x : Int), i < l.length → val (l.set i x) = val l + (x - rd l i) * 18446744073709551616 ^ i := by
  intro l
  induction l with
  | nil => intro i x h; simp at h
  | cons y l ih =>
    intro i x h
    cases i with
    | zero => simp only [List.set_cons_zero, val, rd_cons0, Int.pow_zero]; omega
    | succ i =>
      simp only [List.set_cons_succ, val, rd_consS, Int.pow_succ]
      rw [ih i x (by simpa using h)]
      grind
theorem rowGo_val {x : Int} (x0 : 0 ≤ x) (x1 : x < 18446744073709551616) : ∀ (a L : List Int) (o : Nat) (c : Int), u64s a → u64s L → 0 ≤ c → c < 18446744073709551616 → o + a.length < L.length → rd L (o + a.length : Nat) = 0 →
    val (rowGo x a L o c) = val L + (x * val a + c) * 18446744073709551616 ^ o ∧ ∀ j : Nat, o + a.length < j → rd (rowGo x a L o c) j = rd L j
  | [], L, o, c, _, _, _, _, h1, h2 => by
    rw [List.length_nil, Nat.add_zero] at h1 h2
    refine ⟨?_, fun j hj => ?_⟩
    · rw [rowGo, val_set L o c h1, h2]
      simp [val]
    · rw [rowGo, rd_set_other _ (by rw [List.length_nil] at hj; omega)]
  | y :: a, L, o, c, ua, uL, c0, c1, h1, h2 => by
    have hy := u64s_head ua
    have hw := mul_words x0 x1 hy.1 hy.2
    have hL := u64_rd uL o
    have bl := mulLo_bd x y
    have bh := mulHi_bd x y
    have hxy : x * y ≤ 18446744073709551615 * 18446744073709551615 := Int.mul_le_mul (by omega) (by omega) hy.1 (by omega)
    rw [List.length_cons] at h1 h2
    rw [rowGo]
    obtain ⟨lo, hlo⟩ : ∃ z, mulLo x y = z := ⟨_, rfl⟩
    obtain ⟨hi, hhi⟩ : ∃ z, mulHi x y = z := ⟨_, rfl⟩
    obtain ⟨p, hp⟩ : ∃ z, x * y = z := ⟨_, rfl⟩
    obtain ⟨l0, hl0⟩ : ∃ z, rd L o = z := ⟨_, rfl⟩
    rw [hlo, hhi, hl0]
    rw [hlo, hhi, hp] at hw
    rw [hlo] at bl
    rw [hhi] at bh
    rw [hl0] at hL
    rw [hp] at hxy
    obtain ⟨v, hv⟩ : ∃ z, (l0 + (lo + c) % 18446744073709551616) % 18446744073709551616 = z := ⟨_, rfl⟩
    obtain ⟨k, hk⟩ : ∃ z, IntKind.u64.wrap (IntKind.u64.wrap (hi + (lo + c) / 18446744073709551616) + (l0 + (lo + c) % 18446744073709551616) / 18446744073709551616) = z := ⟨_, rfl⟩
    have key : v + 18446744073709551616 * k = l0 + p + c ∧ 0 ≤ v ∧ v < 18446744073709551616 ∧ 0 ≤ k ∧ k < 18446744073709551616 := by
      rw [IntKind.wrap_u64, IntKind.wrap_u64] at hk
      omega
    rw [hv, hk]
    have hpos : o + (a.length + 1) = o + 1 + a.length := by omega
    rw [hpos] at h1 h2
    obtain ⟨r1, r2⟩ := rowGo_val x0 x1 a (L.set o v) (o + 1) k (u64s_tail ua) (u64s_set uL o key.2.1 key.2.2.1) key.2.2.2.1 key.2.2.2.2 (by rw [List.length_set]; exact h1) (by rw [rd_set_other _ (by omega)]; exact h2)
    refine ⟨?_, fun j hj => ?_⟩
    · rw [r1, val_set L o v (by omega), hl0, val, Int.pow_succ]
      have hp2 : x * (y + 18446744073709551616 * val a) = p + 18446744073709551616 * (x * val a) := by rw [← hp]; grind
      rw [hp2]
      have := key.1
      grind
    · rw [List.length_cons] at hj
      rw [r2 j (by omega), rd_set_other _ (by omega)]
theorem mulL_val {a : List Int} (ua : u64s a) : ∀ (b L : List Int) (i : Nat), u64s b → u64s L → i + b.length + a.length < L.length → (∀ j : Nat, i + a.length ≤ j → rd L j = 0) → val (mulL a b L i) = val L + val a * val b * 18446744073709551616 ^ i
  | [], L, i, _, _, _, _ => by simp [mulL, val]
  | x :: b, L, i, ub, uL, h, hz => by
    have hx := u64s_head ub
    rw [List.length_cons] at h
    obtain ⟨r1, r2⟩ := rowGo_val hx.1 hx.2 a L i 0 ua uL (by omega) (by omega) (by omega) (hz _ (by omega))
    rw [mulL, mulL_val ua b _ (i + 1) (u64s_tail ub) (rowGo_u64 x a L i 0 uL (by omega) (by omega)) (by rw [rowGo_len]; omega) (fun j hj => by rw [r2 j (by omega)]; exact hz j (by omega)), r1, val, Int.pow_succ]
    grind
theorem val_mul {a b : List Int} (ua : u64s a) (ub : u64s b) : val (mulF a b) = val a * val b := by
  unfold mulF
  rw [val_norm, mulL_val ua b _ 0 ub (u64s_zeros _) (by rw [List.length_replicate]; omega) (fun j _ => by rw [rd_get, List.getD_eq_getElem?_getD, List.getElem?_replicate]; split <;> rfl), val_zeros]
  simp
end Go.Proofs.YtmbdbkcifmkpbaaGreatDoor.Den
end
section
set_option linter.unusedVariables false
set_option linter.unusedSimpArgs false
namespace Go.Proofs.YtmbdbkcifmkpbaaGreatDoor.Den
open Go
open Go.Proofs.YtmbdbkcifmkpbaaGreatDoor.OwnA
open Go.Proofs.YtmbdbkcifmkpbaaGreatDoorW.PrintWords (rd mn)
theorem p2 (n : Nat) : (0 : Int) < 2 ^ n := Int.pow_pos (by omega)
theorem p2_lt {a b : Nat} (h : (2 : Int) ^ a < 2 ^ b) : a < b := by
  rcases Nat.lt_or_ge a b with e | e
  · exact e
  · have := pw_le e; omega
theorem tp_low {l : List Int} (hu : u64s l) (ht : tp l) {n : Nat} (hn : l.length = n + 1) : (2 : Int) ^ (64 * n) ≤ val l := by
  have e : l.take (n + 1) = l := by rw [List.take_of_length_le (by omega)]
  have hv := take_succ_val (l := l) (i := n) (by omega)
  rw [e] at hv
  have h1 := (val_bd (u64s_take hu n)).1
  have h2 : rd l n ≠ 0 := by
    unfold tp at ht
    rw [hn, sizeF] at ht
    split at ht
    · have := sizeF_le l n; omega
    · assumption
  have h3 := u64_rd hu n
  have h4 := Int.mul_le_mul_of_nonneg_right (a := 1) (b := rd l n) (show 1 ≤ rd l n by omega) (Int.le_of_lt (pwB n))
  rw [← powB]
  omega
structure IV (lo hi : Int) (c : Num) : Prop where
  n : c.n = false
  u : u64s c.l
  len : c.l.length ≤ 1024
  bl : lo ≤ c.x
  bh : c.x ≤ hi
  v : val c.l < 2 ^ (hi - c.x).toNat
theorem IV.mono {lo hi lo' hi' : Int} {c : Num} (h : IV lo hi c) (h1 : lo' ≤ lo) (h2 : hi ≤ hi') : IV lo' hi' c := by
  refine ⟨h.n, h.u, h.len, by have := h.bl; omega, by have := h.bh; omega, ?_⟩
  have := pw_le (show (hi - c.x).toNat ≤ (hi' - c.x).toNat by have := h.bh; omega)
  have := h.v
  omega
theorem IV_zero {lo hi : Int} (h1 : lo ≤ 0) (h2 : 0 ≤ hi) : IV lo hi zN := ⟨rfl, fun y hy => by simp [zN] at hy, by simp [zN], h1, h2, by have := p2 (hi - zN.x).toNat; exact this⟩
theorem IV_G {lo hi : Int} {c : Num} (h : IV lo hi c) (h1 : -16384 ≤ lo) (h2 : hi ≤ 16384) : GN c := by
  have := h.bl
  have := h.bh
  exact ⟨h.u, h.len, by omega, by omega⟩
theorem told_IV {lo hi : Int} {l : List Int} {x : Int} (hu : u64s l) (hl : l.length ≤ 100000) (h0 : -16384 ≤ lo) (h1 : hi ≤ 16384) (hz : lo ≤ 0) (hz2 : 0 ≤ hi) (hx : lo ≤ x) (hx2 : x ≤ hi) (hv : val l < 2 ^ (hi - x).toNat) :
    IV lo hi (numD (toldF false l x)) ∧ (toldF false l x).e = 0 := by
  by_cases h : val l = 0
  · rw [told_zero false x hu h]
    exact ⟨IV_zero hz hz2, rfl⟩
  · obtain ⟨k, m, t, a1, a2, a3, a4, a5⟩ := told_spec false x hu hl h
    have pk := p2 k
    have hb := (val_bd hu).1
    have hm : 1 ≤ 2 * m + 1 := by
      rcases Int.lt_or_le (2 * m + 1) 1 with e | e
      · have : 2 ^ k * (2 * m + 1) ≤ 2 ^ k * 0 := Int.mul_le_mul_of_nonneg_left (by omega) (Int.le_of_lt pk)
        omega
      · exact e
    have hk : k < (hi - x).toNat := by
      refine p2_lt ?_
      have : (2 : Int) ^ k * 1 ≤ 2 ^ k * (2 * m + 1) := Int.mul_le_mul_of_nonneg_left hm (Int.le_of_lt pk)
      omega
    have ht : val t < 2 ^ (hi - (x + k)).toNat := by
      rw [a4]
      have e : (hi - x).toNat = k + (hi - (x + k)).toNat := by omega
      rw [a1, e, Int.pow_add] at hv
      exact Int.lt_of_mul_lt_mul_left hv (Int.le_of_lt pk)
    have hlen : t.length ≤ 1024 := by
      rcases Nat.eq_zero_or_pos t.length with e | e
      · omega
      · obtain ⟨n, hn⟩ : ∃ n, t.length = n + 1 := ⟨t.length - 1, by omega⟩
        have h2 := tp_low a2 a3 hn
        have h3 : 64 * n < (hi - (x + k)).toNat := p2_lt (by omega)
        omega
    have hc : checkF t (x + k) = 0 := by unfold checkF; rw [if_neg (by omega)]
    rw [a5, if_pos hc]
    exact ⟨⟨rfl, a2, hlen, by show lo ≤ x + (k : Int); omega, by show x + (k : Int) ≤ hi; omega, ht⟩, rfl⟩
theorem mdN_false (l : List Int) : mdN false l = false := by simp [mdN]
theorem add_IV {lo hi : Int} {a b : Num} (ha : IV lo hi a) (hb : IV lo hi b) (h0 : -16384 ≤ lo) (h1 : hi + 1 ≤ 16384) (hz : lo ≤ 0) (hz2 : 0 ≤ hi) :
    IV lo (hi + 1) (addN a b) ∧ (addD a.n a.l a.x b.n b.l b.x).e = 0 := by
  have gA := IV_G ha h0 (by omega)
  have gB := IV_G hb h0 (by omega)
  have ok := lx_ok gA gB
  have hlev := lev_le a.x b.x
  have l1 := ha.bl
  have l2 := hb.bl
  have u1 := ha.bh
  have u2 := hb.bh
  have e1 : val (lx a.l a.x b.x) = val a.l * 2 ^ (a.x - lev a.x b.x).toNat := val_shl (by omega) ha.u
  have e2 : val (ly b.l a.x b.x) = val b.l * 2 ^ (b.x - lev a.x b.x).toNat := val_shl (by omega) hb.u
  have g1 : val (lx a.l a.x b.x) < 2 ^ (hi - lev a.x b.x).toNat := by
    rw [e1, show (hi - lev a.x b.x).toNat = (hi - a.x).toNat + (a.x - lev a.x b.x).toNat by omega, Int.pow_add]
    exact Int.mul_lt_mul_of_pos_right ha.v (p2 _)
  have g2 : val (ly b.l a.x b.x) < 2 ^ (hi - lev a.x b.x).toNat := by
    rw [e2, show (hi - lev a.x b.x).toNat = (hi - b.x).toNat + (b.x - lev a.x b.x).toNat by omega, Int.pow_add]
    exact Int.mul_lt_mul_of_pos_right hb.v (p2 _)
  have hs : val (normF (addF (lx a.l a.x b.x) (ly b.l a.x b.x))) < 2 ^ (hi + 1 - lev a.x b.x).toNat := by
    rw [val_norm, val_add ok.1.2 ok.2.2.1.2, show (hi + 1 - lev a.x b.x).toNat = (hi - lev a.x b.x).toNat + 1 by omega, Int.pow_succ]
    omega
  have okA := okS_add (a := lx a.l a.x b.x) (b := ly b.l a.x b.x) (by omega) (by omega)
  have okN := okS_norm okA
  have := told_IV (lo := lo) (hi := hi + 1) okN.2 okN.1 h0 h1 hz (by omega) (by omega) (by omega) hs
  have e3 : addD a.n a.l a.x b.n b.l b.x = toldF false (normF (addF (lx a.l a.x b.x) (ly b.l a.x b.x))) (lev a.x b.x) := by
    unfold addD whAddN whAddL
    rw [ha.n, hb.n, if_pos rfl, if_pos rfl, mdN_false]
  unfold addN
  rw [e3]
  exact this
theorem mul_IV {lo hi lo' hi' : Int} {a b : Num} (ha : IV lo hi a) (hb : IV lo' hi' b) (h0 : -16384 ≤ lo + lo') (h1 : hi + hi' ≤ 16384) (hz : lo + lo' ≤ 0) (hz2 : 0 ≤ hi + hi') :
    IV (lo + lo') (hi + hi') (mulN a b) ∧ (mulD a.n a.l a.x b.n b.l b.x).e = 0 := by
  have l1 := ha.bl
  have l2 := hb.bl
  have u1 := ha.bh
  have u2 := hb.bh
  have va := (val_bd ha.u).1
  have vb := (val_bd hb.u).1
  have hs : val (normF (mulF a.l b.l)) < 2 ^ (hi + hi' - (a.x + b.x)).toNat := by
    rw [val_norm, val_mul ha.u hb.u, show (hi + hi' - (a.x + b.x)).toNat = (hi - a.x).toNat + (hi' - b.x).toNat by omega, Int.pow_add]
    have s1 : val a.l * val b.l ≤ val a.l * 2 ^ (hi' - b.x).toNat := Int.mul_le_mul_of_nonneg_left (Int.le_of_lt hb.v) va
    have s2 : val a.l * 2 ^ (hi' - b.x).toNat < 2 ^ (hi - a.x).toNat * 2 ^ (hi' - b.x).toNat := Int.mul_lt_mul_of_pos_right ha.v (p2 _)
    omega
  have okM := okS_norm (okS_mul (a := a.l) (b := b.l) (by have := ha.len; omega) (by have := hb.len; omega))
  have := told_IV (lo := lo + lo') (hi := hi + hi') (x := a.x + b.x) okM.2 okM.1 h0 h1 hz hz2 (by omega) (by omega) hs
  have e3 : mulD a.n a.l a.x b.n b.l b.x = toldF false (normF (mulF a.l b.l)) (a.x + b.x) := by
    unfold mulD
    rw [ha.n, hb.n]
    simp [mdN_false]
  unfold mulN
  rw [e3]
  exact this
end Go.Proofs.YtmbdbkcifmkpbaaGreatDoor.Den
end
