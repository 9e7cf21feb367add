/- Parts of the proof, joined: What a list of limbs is worth: plain facts, without the program. Sums and differences of limbs; a sum with nothing. -/
import Derived.Test.YtejmahnbecglfaaDoorCLC
import Derived.Laws.BitsLemmas
import Derived.Lib.TrailingZeros
section
set_option linter.unusedVariables false
set_option linter.unusedSimpArgs false
namespace Go.Proofs.YtejmahnbecglfaaDoor.Den
open Go
open Go.Proofs.YtejmahnbecglfaaDoor.OwnA
open Go.Proofs.YtejmahnbecglfaaDoorW.PrintWords (rd mn)
def val : List Int → Int
  | [] => 0
  | x :: l => x + 18446744073709551616 * val l
theorem u64s_tail {x : Int} {l : List Int} (h : u64s (x :: l)) : u64s l := fun y hy => h y (List.mem_cons_of_mem _ hy)
theorem u64s_head {x : Int} {l : List Int} (h : u64s (x :: l)) : 0 ≤ x ∧ x < 18446744073709551616 := h x (List.mem_cons_self ..)
theorem u64s_app {l m : List Int} (h : u64s l) (h' : u64s m) : u64s (l ++ m) := fun y hy => by
  rcases List.mem_append.1 hy with hy | hy
  · exact h y hy
  · exact h' y hy
theorem pwB (n : Nat) : (0 : Int) < 18446744073709551616 ^ n := Int.pow_pos (by omega)
theorem val_bd : ∀ {l : List Int}, u64s l → 0 ≤ val l ∧ val l < 18446744073709551616 ^ l.length := by
  intro l
  induction l with
  | nil => intro _; simp [val]
  | cons x l ih =>
    intro h
    have hx := u64s_head h
    have hl := ih (u64s_tail h)
    simp only [val, List.length_cons, Int.pow_succ]
    omega
theorem val_append (l m : List Int) : val (l ++ m) = val l + 18446744073709551616 ^ l.length * val m := by
  induction l with
  | nil => simp [val]
  | cons x l ih => simp only [List.cons_append, val, ih, List.length_cons, Int.pow_succ]; grind
theorem val_zeros (n : Nat) : val (List.replicate n 0) = 0 := by
  induction n with
  | zero => rfl
  | succ n ih => simp [List.replicate_succ, val, ih]
theorem rd_get (l : List Int) (i : Nat) : rd l (i : Int) = l.getD i 0 := by simp [rd]
theorem take_succ_val {l : List Int} {i : Nat} (h : i < l.length) : val (l.take (i + 1)) = val (l.take i) + rd l i * 18446744073709551616 ^ i := by
  have e : l.take (i + 1) = l.take i ++ [rd l i] := by
    rw [List.take_succ_eq_append_getElem h]; congr 1
    rw [rd_get, List.getD_eq_getElem?_getD, List.getElem?_eq_getElem h]; rfl
  rw [e, val_append, List.length_take, Nat.min_eq_left (by omega)]
  simp only [val]; grind
theorem size_val (l : List Int) : ∀ n, n ≤ l.length → val (l.take (sizeF l n)) = val (l.take n)
  | 0, _ => rfl
  | n + 1, h => by
    unfold sizeF
    split
    · rename_i hz
      rw [size_val l n (by omega), take_succ_val (by omega), hz]; omega
    · rfl
theorem val_norm (l : List Int) : val (normF l) = val l := by
  unfold normF
  rw [size_val l _ (Nat.le_refl _), List.take_of_length_le (Nat.le_refl _)]
/-- no zero at the upper end -/
def tp (l : List Int) : Prop := sizeF l l.length = l.length
theorem tp_norm (l : List Int) : tp (normF l) := by unfold tp; rw [normF_sizeF, normF_size]
theorem tp_nil : tp [] := rfl
theorem norm_tp {l : List Int} (h : tp l) : normF l = l := by unfold normF; rw [h]; exact List.take_of_length_le (Nat.le_refl _)
theorem tp_last {x : Int} {l : List Int} (h : tp (x :: l)) : rd (x :: l) (l.length : Int) ≠ 0 := by
  unfold tp at h
  rw [List.length_cons, sizeF] at h
  split at h
  · have := sizeF_le (x :: l) l.length
    omega
  · assumption
theorem tp_tail {x : Int} {l : List Int} (h : tp (x :: l)) : tp l := by
  have h1 := tp_last h
  cases l with
  | nil => rfl
  | cons y m =>
    unfold tp
    rw [List.length_cons, rd_consS] at h1
    rw [List.length_cons, sizeF, if_neg h1]
theorem tp_zero : ∀ {l : List Int}, u64s l → tp l → val l = 0 → l = []
  | [], _, _, _ => rfl
  | x :: l, hu, ht, hv => by
    have hx := u64s_head hu
    have hb := (val_bd (u64s_tail hu)).1
    rw [val] at hv
    have h0 : val l = 0 := by omega
    have hl := tp_zero (u64s_tail hu) (tp_tail ht) h0
    subst hl
    have := tp_last ht
    rw [List.length_nil, rd_cons0] at this
    simp only [val] at hv
    omega
theorem tp_inj : ∀ {l m : List Int}, u64s l → u64s m → tp l → tp m → val l = val m → l = m
  | [], m, _, um, _, tm, h => (tp_zero um tm h.symm).symm
  | x :: l, [], ul, _, tl, _, h => tp_zero ul tl h
  | x :: l, y :: m, ul, um, tl, tm, h => by
    have hx := u64s_head ul
    have hy := u64s_head um
    simp only [val] at h
    have e : x = y := by omega
    have e2 : val l = val m := by omega
    rw [e, tp_inj (u64s_tail ul) (u64s_tail um) (tp_tail tl) (tp_tail tm) e2]
/-! shifts -/
theorem wraps_u64 (n : Int) (h₀ : 0 ≤ n) (h₁ : n < 2 ^ 64) : IntKind.u64.wrap n = n := by
  have e' : (2 : Int) ^ 64 = 18446744073709551616 := by rfl
  rw [e'] at h₁
  rw [IntKind.wrap_u64]; omega
theorem or_sum {a b : Int} (s : Nat) (a0 : 0 ≤ a) (a1 : a < 18446744073709551616) (ha : a % 2 ^ s = 0) (b0 : 0 ≤ b) (b1 : b < 18446744073709551616) (hb : b < 2 ^ s) : bits .or .u64 a b = a + b := by
  have e' : (2 : Int) ^ 64 = 18446744073709551616 := by rfl
  exact bits_join .u64 64 (by decide) wraps_u64 s a b a0 ha (by rw [e']; exact a1) b0 hb (by rw [e']; exact b1)
theorem pow_split {s : Nat} (h : s ≤ 63) : (2 : Int) ^ s * 2 ^ (63 - s) * 2 = 18446744073709551616 := by
  rw [← Int.pow_add, ← Int.pow_succ, show (s + (63 - s)).succ = 64 by omega]; rfl
/-- a limb that is shifted up: what stays, and what goes on -/
theorem shl_limb {x c : Int} {s : Nat} (hs : s ≤ 63) (x0 : 0 ≤ x) (x1 : x < 18446744073709551616) (c0 : 0 ≤ c) (c1 : c < 2 ^ s) :
    shlW x s c + 18446744073709551616 * shlC x s = x * 2 ^ s + c ∧ 0 ≤ shlC x s ∧ shlC x s < 2 ^ s := by
  have hP := pow_split hs
  have p0 : (0 : Int) < 2 ^ s := Int.pow_pos (by omega)
  have q0 : (0 : Int) < 2 ^ (63 - s) := Int.pow_pos (by omega)
  have hle : (2 : Int) ^ s ≤ 9223372036854775808 := by
    have := Int.mul_le_mul_of_nonneg_left (show (1 : Int) ≤ 2 ^ (63 - s) by omega) (Int.le_of_lt p0)
    omega
  have hC : shlC x s = x / (2 ^ (63 - s) * 2) := by
    unfold shlC
    rw [Int.ediv_ediv_of_nonneg (by omega : (0:Int) ≤ 2), Int.mul_comm 2]
  have hx := Int.emod_add_mul_ediv x (2 ^ (63 - s) * 2)
  have hm0 := Int.emod_nonneg x (show (2 : Int) ^ (63 - s) * 2 ≠ 0 by omega)
  have hm1 := Int.emod_lt_of_pos x (show (0 : Int) < 2 ^ (63 - s) * 2 by omega)
  obtain ⟨q, hq⟩ : ∃ q, x / (2 ^ (63 - s) * 2) = q := ⟨_, rfl⟩
  obtain ⟨r, hr⟩ : ∃ r, x % (2 ^ (63 - s) * 2) = r := ⟨_, rfl⟩
  rw [hq, hr] at hx
  rw [hr] at hm0 hm1
  have hPs : (2 : Int) ^ s * (2 ^ (63 - s) * 2) = 18446744073709551616 := by rw [← Int.mul_assoc]; exact hP
  have e1 : x * 2 ^ s = r * 2 ^ s + 18446744073709551616 * q := by
    rw [← hx, ← hPs]; grind
  have r0 : 0 ≤ r * 2 ^ s := Int.mul_nonneg hm0 (Int.le_of_lt p0)
  have r1 : r * 2 ^ s < 18446744073709551616 := by
    rw [← hPs, Int.mul_comm]
    exact Int.mul_lt_mul_of_pos_left hm1 p0
  have hw : IntKind.u64.wrap (x * 2 ^ s) = r * 2 ^ s := by
    rw [IntKind.wrap_u64, e1]; omega
  have hq0 : 0 ≤ q := by rw [← hq]; exact Int.ediv_nonneg x0 (by omega)
  have hq1 : q < 2 ^ s := by
    rw [← hq]
    refine Int.ediv_lt_of_lt_mul (by omega) ?_
    rw [hPs]; exact x1
  refine ⟨?_, by rw [hC, hq]; exact hq0, by rw [hC, hq]; exact hq1⟩
  unfold shlW
  rw [hw, or_sum s r0 r1 (Int.mul_emod_left ..) c0 (by omega) c1, hC, hq, e1]
  omega
theorem val_shlL {s : Nat} (hs : s ≤ 63) : ∀ (l : List Int) (c : Int), u64s l → 0 ≤ c → c < 2 ^ s → val (shlL s l c) = val l * 2 ^ s + c
  | [], c, _, _, _ => by simp [shlL, val]
  | x :: l, c, hu, c0, c1 => by
    have hx := u64s_head hu
    obtain ⟨h1, h2, h3⟩ := shl_limb hs hx.1 hx.2 c0 c1
    rw [shlL, val, val, val_shlL hs l _ (u64s_tail hu) h2 h3]
    grind
theorem powB (a : Nat) : (18446744073709551616 : Int) ^ a = 2 ^ (64 * a) := by rw [Int.pow_mul]; rfl
theorem val_shl {l : List Int} {n : Int} (h0 : 0 ≤ n) (hu : u64s l) : val (shlF l n) = val l * 2 ^ n.toNat := by
  unfold shlF
  rw [val_norm, val_append, val_zeros, val_shlL (by omega) l 0 hu (by omega) (Int.pow_pos (by omega)), List.length_replicate, powB]
  have e : n.toNat = 64 * (n / 64).toNat + (n % 64).toNat := by omega
  rw [e, Int.pow_add]
  grind
theorem tp_shl (l : List Int) (n : Int) : tp (shlF l n) := tp_norm _
/-- a limb that is shifted down -/
theorem shr_limb {x y : Int} {s : Nat} (hs : s ≤ 63) (x0 : 0 ≤ x) (x1 : x < 18446744073709551616) (y0 : 0 ≤ y) (y1 : y < 18446744073709551616) :
    shrW s x y = x / 2 ^ s + (y % 2 ^ s) * (2 ^ (63 - s) * 2) := by
  have hP := pow_split hs
  have p0 : (0 : Int) < 2 ^ s := Int.pow_pos (by omega)
  have q0 : (0 : Int) < 2 ^ (63 - s) := Int.pow_pos (by omega)
  have hPs : (2 : Int) ^ s * (2 ^ (63 - s) * 2) = 18446744073709551616 := by rw [← Int.mul_assoc]; exact hP
  have hy := Int.emod_add_mul_ediv y (2 ^ s)
  have hm0 := Int.emod_nonneg y (show (2 : Int) ^ s ≠ 0 by omega)
  have hm1 := Int.emod_lt_of_pos y p0
  obtain ⟨q, hq⟩ : ∃ q, y / 2 ^ s = q := ⟨_, rfl⟩
  obtain ⟨r, hr⟩ : ∃ r, y % 2 ^ s = r := ⟨_, rfl⟩
  rw [hq, hr] at hy
  rw [hr] at hm0 hm1 ⊢
  have t0 : 0 ≤ r * (2 ^ (63 - s) * 2) := Int.mul_nonneg hm0 (by omega)
  have t1 : r * (2 ^ (63 - s) * 2) < 18446744073709551616 := by
    rw [← hPs]
    exact Int.mul_lt_mul_of_pos_right hm1 (by omega)
  have hw : IntKind.u64.wrap (IntKind.u64.wrap (y * 2) * 2 ^ (63 - s)) = r * (2 ^ (63 - s) * 2) := by
    rw [IntKind.wrap_u64, IntKind.wrap_u64]
    have e0 : y * 2 % 18446744073709551616 * 2 ^ (63 - s) = y * 2 * 2 ^ (63 - s) + 18446744073709551616 * (-(y * 2 / 18446744073709551616 * 2 ^ (63 - s))) := by
      rw [Int.emod_def]; grind
    have e1 : y * 2 * 2 ^ (63 - s) = r * (2 ^ (63 - s) * 2) + 18446744073709551616 * q := by
      rw [← hy, ← hPs]; grind
    rw [e0, e1]; omega
  have d0 : 0 ≤ x / 2 ^ s := Int.ediv_nonneg x0 (by omega)
  have d1 : x / 2 ^ s < 2 ^ (63 - s) * 2 := Int.ediv_lt_of_lt_mul p0 (by rw [Int.mul_comm, hPs]; exact x1)
  have k1 : (2 : Int) ^ (63 - s) * 2 ≤ 18446744073709551616 := by
    have := Int.mul_le_mul_of_nonneg_right (show (1 : Int) ≤ 2 ^ s by omega) (show (0 : Int) ≤ 2 ^ (63 - s) * 2 by omega)
    omega
  unfold shrW
  have hc : ∀ a b : Int, bits .or .u64 a b = bits .or .u64 b a := fun a b => by
    unfold bits
    simp only [BitVec.or_comm]
  rw [hw, hc, or_sum (63 - s + 1) t0 t1 (by rw [Int.pow_succ]; exact Int.mul_emod_left ..) d0 (by omega) (by rw [Int.pow_succ]; exact d1)]
  omega
theorem val_shrL {s : Nat} (hs : s ≤ 63) : ∀ (l : List Int), u64s l → val (OwnA.shrL s l) = val l / 2 ^ s
  | [], _ => by simp [OwnA.shrL, val]
  | [x], _ => by simp [OwnA.shrL, val]
  | x :: y :: l, hu => by
    have hx := u64s_head hu
    have hy := u64s_head (u64s_tail hu)
    have p0 : (0 : Int) < 2 ^ s := Int.pow_pos (by omega)
    have hPs : (2 : Int) ^ s * (2 ^ (63 - s) * 2) = 18446744073709551616 := by rw [← Int.mul_assoc]; exact pow_split hs
    obtain ⟨K, hK⟩ : ∃ K : Int, 2 ^ (63 - s) * 2 = K := ⟨_, rfl⟩
    rw [OwnA.shrL, val, val_shrL hs _ (u64s_tail hu), shr_limb hs hx.1 hx.2 hy.1 hy.2]
    rw [hK] at hPs ⊢
    have hV : val (y :: l) % 2 ^ s = y % 2 ^ s := by
      rw [val, ← hPs, Int.mul_assoc, Int.add_mul_emod_self_left]
    rw [show val (x :: y :: l) = x + 18446744073709551616 * val (y :: l) from rfl]
    have hd := Int.emod_add_mul_ediv (val (y :: l)) (2 ^ s)
    rw [hV] at hd
    obtain ⟨V, hv⟩ : ∃ V, val (y :: l) = V := ⟨_, rfl⟩
    rw [hv] at hd ⊢
    obtain ⟨q, hq⟩ : ∃ q, V / 2 ^ s = q := ⟨_, rfl⟩
    obtain ⟨r, hr⟩ : ∃ r, y % 2 ^ s = r := ⟨_, rfl⟩
    rw [hq, hr] at hd
    rw [hq, hr, ← hPs, Int.mul_assoc (2 ^ s) K V, Int.add_mul_ediv_left _ _ (by omega), ← hd]
    grind
theorem u64s_drop {l : List Int} (h : u64s l) (n : Nat) : u64s (l.drop n) := fun y hy => h y (List.mem_of_mem_drop hy)
theorem val_drop {l : List Int} (hu : u64s l) {k : Nat} (hk : k ≤ l.length) : val (l.drop k) = val l / 18446744073709551616 ^ k := by
  have h1 : val l = val (l.take k) + 18446744073709551616 ^ k * val (l.drop k) := by
    have := val_append (l.take k) (l.drop k)
    rw [List.take_append_drop, List.length_take, Nat.min_eq_left hk] at this
    exact this
  have h2 := val_bd (u64s_take hu k)
  rw [List.length_take, Nat.min_eq_left hk] at h2
  rw [h1, Int.add_mul_ediv_left _ _ (by have := pwB k; omega), Int.ediv_eq_zero_of_lt h2.1 h2.2]
  omega
theorem pw_le {a b : Nat} (h : a ≤ b) : (2 : Int) ^ a ≤ 2 ^ b := by
  obtain ⟨c, rfl⟩ := Nat.le.dest h
  rw [Int.pow_add]
  have h0 : (0 : Int) < 2 ^ c := Int.pow_pos (by omega)
  have h2 : (0 : Int) < 2 ^ a := Int.pow_pos (by omega)
  have h1 := Int.mul_le_mul_of_nonneg_left (a := 1) (b := (2 : Int) ^ c) (c := 2 ^ a) (by omega) (Int.le_of_lt h2)
  omega
theorem val_shr {l : List Int} {n : Int} (h0 : 0 ≤ n) (hu : u64s l) : val (OwnA.shrF l n) = val l / 2 ^ n.toNat := by
  unfold OwnA.shrF
  have hb := val_bd hu
  by_cases h : l.length ≤ (n / 64).toNat
  · rw [if_pos h]
    rw [powB] at hb
    have := pw_le (show 64 * l.length ≤ n.toNat by omega)
    rw [Int.ediv_eq_zero_of_lt hb.1 (by omega)]
    rfl
  · rw [if_neg h, val_norm, val_shrL (by omega) _ (u64s_drop hu _), val_drop hu (by omega), powB]
    have e : n.toNat = 64 * (n / 64).toNat + (n % 64).toNat := by omega
    rw [e, Int.pow_add, Int.ediv_ediv_of_nonneg (by have : (0:Int) < 2 ^ (64 * (n / 64).toNat) := Int.pow_pos (by omega); omega)]
/-! zeros at the lower end -/
theorem odd_inj : ∀ {a b : Nat} {m n : Int}, (2 : Int) ^ a * (2 * m + 1) = 2 ^ b * (2 * n + 1) → a = b ∧ m = n
  | 0, 0, m, n, h => by simp only [Int.pow_zero] at h; omega
  | 0, b + 1, m, n, h => by rw [Int.pow_succ, Int.pow_zero, Int.mul_comm (2 ^ b), Int.mul_assoc] at h; omega
  | a + 1, 0, m, n, h => by rw [Int.pow_succ, Int.pow_zero, Int.mul_comm (2 ^ a), Int.mul_assoc] at h; omega
  | a + 1, b + 1, m, n, h => by
    rw [Int.pow_succ, Int.pow_succ, Int.mul_comm (2 ^ a), Int.mul_assoc, Int.mul_comm (2 ^ b), Int.mul_assoc] at h
    have := odd_inj (a := a) (b := b) (m := m) (n := n) (by omega)
    omega
theorem zerosGo_spec : ∀ (l : List Int) (i : Nat), u64s l → val l ≠ 0 → ∃ (k : Nat) (m : Int), zerosGo l i = 64 * (i : Int) + k ∧ val l = 2 ^ k * (2 * m + 1)
  | [], _, _, h => absurd rfl h
  | x :: l, i, hu, h => by
    have hx := u64s_head hu
    rw [zerosGo]
    by_cases h0 : x = 0
    · rw [if_pos h0]
      rw [val, h0] at h ⊢
      obtain ⟨k, m, e1, e2⟩ := zerosGo_spec l (i + 1) (u64s_tail hu) (by omega)
      refine ⟨64 + k, m, by rw [e1]; omega, ?_⟩
      rw [e2, Int.pow_add, show (2 : Int) ^ 64 = 18446744073709551616 by rfl, Int.mul_assoc]
      omega
    · rw [if_neg h0]
      obtain ⟨m, e1, e2⟩ := Lib.ctzFrom_spec 64 x.toNat (by omega) (by omega)
      have hc : Lib.ctz 64 x.toNat = Lib.ctzFrom 64 x.toNat := by unfold Lib.ctz; rw [if_neg (by omega)]
      rw [hc]
      obtain ⟨c, hcc⟩ : ∃ c, Lib.ctzFrom 64 x.toNat = c := ⟨_, rfl⟩
      rw [hcc] at e1 e2 ⊢
      have hxi : x = 2 ^ c * (2 * (m : Int) + 1) := by
        have := congrArg (fun n : Nat => (n : Int)) e1
        simp only [Int.natCast_mul, Int.natCast_pow, Int.natCast_add] at this
        rw [Int.toNat_of_nonneg hx.1] at this
        exact this
      refine ⟨c, m + 2 ^ (63 - c) * val l, rfl, ?_⟩
      have hP := pow_split (s := c) (by omega)
      rw [val, hxi, ← hP]
      grind
theorem zeros_spec {l : List Int} (hu : u64s l) (h : val l ≠ 0) : ∃ (k : Nat) (m : Int), zerosF l = k ∧ val l = 2 ^ k * (2 * m + 1) := by
  obtain ⟨k, m, e1, e2⟩ := zerosGo_spec l 0 hu h
  exact ⟨k, m, by unfold zerosF; rw [e1]; omega, e2⟩
theorem val_shrLoop : ∀ (k : Nat) (l : List Int) (n : Int), u64s l → n ≤ 65536 * k → val (shrLoop k l n) = val l / 2 ^ n.toNat
  | 0, l, n, _, hn => by
    rw [shrLoop, show n.toNat = 0 by omega]; simp
  | k + 1, l, n, hu, hn => by
    rw [shrLoop]
    by_cases h : 0 < n
    · rw [if_pos h]
      have hm : mn n 65536 = if 65536 < n then 65536 else n := rfl
      have hm0 : 0 ≤ mn n 65536 := by rw [hm]; split <;> omega
      rw [val_shrLoop k _ _ (OwnA.shrF_u64 hu _) (by omega), val_shr hm0 hu, Int.ediv_ediv_of_nonneg (Int.le_of_lt (Int.pow_pos (by omega))), ← Int.pow_add]
      congr 2
      rw [hm]; split <;> omega
    · rw [if_neg h, show n.toNat = 0 by omega]; simp
theorem size_zero {l : List Int} (hu : u64s l) : sizeF l l.length = 0 ↔ val l = 0 := by
  constructor
  · intro h
    rw [← val_norm]; unfold normF; rw [h]; rfl
  · intro h
    have := tp_zero (normF_u64 hu) (tp_norm l) (by rw [val_norm]; exact h)
    rw [← normF_size, this]; rfl
/-- A number as it is told, if it is not 0. -/
theorem told_spec (n : Bool) {l : List Int} (x : Int) (hu : u64s l) (hl : l.length ≤ 100000) (h : val l ≠ 0) : ∃ (k : Nat) (m : Int) (t : List Int), val l = 2 ^ k * (2 * m + 1) ∧ u64s t ∧ tp t ∧ val t = 2 * m + 1 ∧
    toldF n l x = if checkF t (x + k) = 0 then ⟨n, t, x + k, 0⟩ else ⟨false, [], 0, 4⟩ := by
  obtain ⟨k, m, e1, e2⟩ := zeros_spec hu h
  have hz := (zerosGo_bd l 0 hu).2
  change zerosF l < _ at hz
  have hk : (k : Int) < 64 * l.length + 1 := by rw [← e1]; omega
  have ht : val (normF (shrLoop 200 l (zerosF l))) = 2 * m + 1 := by
    rw [val_norm, val_shrLoop 200 l _ hu (by omega), e1, e2, Int.toNat_natCast, Int.mul_ediv_cancel_left _ (Int.ne_of_gt (Int.pow_pos (by omega)))]
  refine ⟨k, m, _, e2, normF_u64 (shrLoop_u64 200 l _ hu), tp_norm _, ht, ?_⟩
  unfold toldF
  have hs : signF n l ≠ 0 := by
    unfold signF
    rw [if_neg (fun e => h ((size_zero hu).1 e))]
    cases n <;> simp
  rw [if_neg hs, e1]
theorem told_zero (n : Bool) {l : List Int} (x : Int) (hu : u64s l) (h : val l = 0) : toldF n l x = ⟨false, [], 0, 0⟩ := by
  unfold toldF
  rw [if_pos]
  unfold signF
  rw [if_pos ((size_zero hu).2 h)]
/-- WHAT IS TOLD HANGS ON THE NUMBER ALONE. -/
theorem told_eq (n : Bool) {k l : List Int} (x y : Int) (p q : Nat) (hk : u64s k) (hl : u64s l) (lk : k.length ≤ 100000) (ll : l.length ≤ 100000) (hv : val k * 2 ^ p = val l * 2 ^ q) (hx : x - p = y - q) : toldF n k x = toldF n l y := by
  have p0 : (0 : Int) < 2 ^ p := Int.pow_pos (by omega)
  have q0 : (0 : Int) < 2 ^ q := Int.pow_pos (by omega)
  by_cases h : val k = 0
  · have h2 : val l = 0 := by
      rw [h, Int.zero_mul] at hv
      rcases Int.mul_eq_zero.1 hv.symm with e | e
      · exact e
      · omega
    rw [told_zero n x hk h, told_zero n y hl h2]
  · have h2 : val l ≠ 0 := fun e => by
      rw [e, Int.zero_mul] at hv
      rcases Int.mul_eq_zero.1 hv with e | e
      · exact h e
      · omega
    obtain ⟨a, m, t, a1, a2, a3, a4, a5⟩ := told_spec n x hk lk h
    obtain ⟨b, m', t', b1, b2, b3, b4, b5⟩ := told_spec n y hl ll h2
    have ho : (2 : Int) ^ (a + p) * (2 * m + 1) = 2 ^ (b + q) * (2 * m' + 1) := by
      rw [Int.pow_add, Int.pow_add]
      rw [a1, b1] at hv
      grind
    obtain ⟨o1, o2⟩ := odd_inj ho
    have et : t = t' := tp_inj a2 b2 a3 b3 (by rw [a4, b4, o2])
    have ex : x + a = y + b := by omega
    rw [a5, b5, et, ex]
end Go.Proofs.YtejmahnbecglfaaDoor.Den
end
section
set_option linter.unusedVariables false
set_option linter.unusedSimpArgs false
namespace Go.Proofs.YtejmahnbecglfaaDoor.Den
open Go
open Go.Proofs.YtejmahnbecglfaaDoor.OwnA
open Go.Proofs.YtejmahnbecglfaaDoorW.PrintWords (rd mn)
theorem atF_rd (l : List Int) (i : Nat) : atF l i = rd l i := by
  unfold atF
  split
  · rfl
  · rw [rd_get, List.getD_eq_getElem?_getD, List.getElem?_eq_none (by omega)]; rfl
def vA (l : List Int) : Nat → Nat → Int
  | _, 0 => 0
  | i, n + 1 => atF l i + 18446744073709551616 * vA l (i + 1) n
theorem vA_all (l : List Int) : ∀ n i, l.length ≤ i + n → vA l i n = val (l.drop i)
  | 0, i, h => by rw [List.drop_eq_nil_of_le (by omega)]; rfl
  | n + 1, i, h => by
    rw [vA, vA_all l n (i + 1) (by omega)]
    by_cases hi : i < l.length
    · rw [List.drop_eq_getElem_cons hi, val, atF_rd, rd_get, List.getD_eq_getElem?_getD, List.getElem?_eq_getElem hi]; rfl
    · rw [List.drop_eq_nil_of_le (by omega), List.drop_eq_nil_of_le (by omega)]
      unfold atF
      rw [if_neg hi]; rfl
theorem addL_val {a b : List Int} (ha : u64s a) (hb : u64s b) : ∀ (n i : Nat) (c : Int), 0 ≤ c → ∃ c', 0 ≤ c' ∧ val (addL a b i n c) + 18446744073709551616 ^ n * c' = vA a i n + vA b i n + c
  | 0, i, c, h => ⟨c, h, by simp [addL, val, vA]⟩
  | n + 1, i, c, h => by
    have x := atF_bd ha i
    have y := atF_bd hb i
    obtain ⟨t, ht⟩ : ∃ t, atF a i + atF b i + c = t := ⟨_, rfl⟩
    obtain ⟨c', h0, h1⟩ := addL_val ha hb n (i + 1) (t / 18446744073709551616) (by omega)
    refine ⟨c', h0, ?_⟩
    rw [addL, ht, val, vA, vA, Int.pow_succ]
    have h2 := Int.emod_add_mul_ediv t 18446744073709551616
    grind
theorem pwB_le {a b : Nat} (h : a ≤ b) : (18446744073709551616 : Int) ^ a ≤ 18446744073709551616 ^ b := by
  rw [powB, powB]; exact pw_le (by omega)
theorem no_carry {n : Nat} {v c s : Int} (hv : 0 ≤ v) (hc : 0 ≤ c) (hs : s < 18446744073709551616 ^ n) (h : v + 18446744073709551616 ^ n * c = s) : c = 0 := by
  by_cases h0 : c = 0
  · exact h0
  · have := Int.mul_le_mul_of_nonneg_left (a := 1) (b := c) (c := 18446744073709551616 ^ n) (by omega) (Int.le_of_lt (pwB n))
    omega
theorem val_add {a b : List Int} (ha : u64s a) (hb : u64s b) : val (addF a b) = val a + val b := by
  unfold addF
  rw [val_norm]
  obtain ⟨c', h0, h1⟩ := addL_val ha hb (max a.length b.length + 1) 0 0 (by omega)
  rw [vA_all a _ _ (by omega), vA_all b _ _ (by omega), List.drop_zero, List.drop_zero, Int.add_zero] at h1
  have va := val_bd ha
  have vb := val_bd hb
  have pa := pwB_le (show a.length ≤ max a.length b.length by omega)
  have pb := pwB_le (show b.length ≤ max a.length b.length by omega)
  have hu := (val_bd (addL_u64 a b 0 (max a.length b.length + 1) 0)).1
  have hz := no_carry hu h0 (by rw [Int.pow_succ]; omega) h1
  rw [hz] at h1
  omega
theorem subL_val {a b : List Int} (ha : u64s a) (hb : u64s b) : ∀ (n i : Nat) (c : Int), 0 ≤ c → c ≤ 1 → ∃ c', 0 ≤ c' ∧ val (subL a b i n c) = vA a i n - vA b i n - c + 18446744073709551616 ^ n * c'
  | 0, i, c, h, _ => ⟨c, h, by simp [subL, val, vA]; omega⟩
  | n + 1, i, c, h, hc => by
    have x := atF_bd ha i
    have y := atF_bd hb i
    have hb' := borF_bd (rd a i) (atF b i + c)
    obtain ⟨c', h0, h1⟩ := subL_val ha hb n (i + 1) (borF (rd a i) (atF b i + c)) hb'.1 hb'.2
    refine ⟨c', h0, ?_⟩
    rw [subL, val, vA, vA, Int.pow_succ, h1]
    have h2 : (rd a i - atF b i - c) % 18446744073709551616 = rd a i - atF b i - c + 18446744073709551616 * borF (rd a i) (atF b i + c) := by
      rw [atF_rd] at x
      unfold borF
      split <;> omega
    rw [h2, atF_rd a]
    grind
theorem val_subG {a b : List Int} (ha : u64s a) (hb : u64s b) (hl : b.length ≤ a.length) (hv : val b ≤ val a) : val (subG a b) = val a - val b := by
  unfold subG
  rw [val_norm]
  obtain ⟨c', h0, h1⟩ := subL_val ha hb a.length 0 0 (by omega) (by omega)
  rw [vA_all a _ _ (by omega), vA_all b _ _ (by omega), List.drop_zero, List.drop_zero] at h1
  have va := val_bd ha
  have vb := val_bd hb
  have hu := val_bd (subL_u64 a b a.length 0 0)
  rw [subL_len] at hu
  have hz := no_carry (n := a.length) (v := val a - val b) (s := val (subL a b 0 a.length 0)) (by omega) h0 hu.2 (by omega)
  rw [hz] at h1
  omega
/-! a sum with nothing -/
theorem shl_nil {n : Int} (h : 0 ≤ n) : shlF [] n = [] := tp_zero (shlF_ok (by intro y hy; simp at hy)) (tp_norm _) (by rw [val_shl h (by intro y hy; simp at hy)]; simp [val])
/-- a number as it is told -/
def CN (c : Num) : Prop := c = zN ∨ (u64s c.l ∧ c.l.length ≤ 1024 ∧ -16384 ≤ c.x ∧ c.x ≤ 16384 ∧ tp c.l ∧ ∃ m : Int, val c.l = 2 * m + 1)
theorem u64s_nil : u64s [] := fun y hy => by simp at hy
theorem told_CN (n : Bool) {l : List Int} (x : Int) (hu : u64s l) (hl : l.length ≤ 100000) : CN (numD (toldF n l x)) := by
  by_cases h : val l = 0
  · rw [told_zero n x hu h]; exact .inl rfl
  · obtain ⟨k, m, t, a1, a2, a3, a4, a5⟩ := told_spec n x hu hl h
    rw [a5]
    by_cases hc : checkF t (x + k) = 0
    · rw [if_pos hc]
      unfold checkF at hc
      split at hc
      · omega
      · exact .inr ⟨a2, by show t.length ≤ 1024; omega, by show -16384 ≤ x + (k : Int); omega, by show x + (k : Int) ≤ 16384; omega, a3, m, a4⟩
    · rw [if_neg hc]; exact .inl rfl
theorem CN_told {c : Num} (h : CN c) (hz : c ≠ zN) : toldF c.n c.l c.x = ⟨c.n, c.l, c.x, 0⟩ := by
  rcases h with h | ⟨h1, h2, h3, h4, h5, m, h6⟩
  · exact absurd h hz
  · obtain ⟨k, m', t, a1, a2, a3, a4, a5⟩ := told_spec c.n c.x h1 (by omega) (by omega)
    have ho : (2 : Int) ^ 0 * (2 * m + 1) = 2 ^ k * (2 * m' + 1) := by rw [← a1, h6]; simp
    obtain ⟨o1, o2⟩ := odd_inj ho
    have et : t = c.l := tp_inj a2 h1 a3 h5 (by rw [a4, h6, o2])
    rw [a5, et, ← o1]
    have hc : checkF c.l (c.x + ((0 : Nat) : Int)) = 0 := by unfold checkF; rw [if_neg (by omega)]
    rw [if_pos hc]
    simp
theorem cmpF_nil (k : List Int) : ¬ cmpF k [] < 0 := (cmpF_empty (a := k) (b := []) rfl).1
theorem addN_zN {c : Num} (h : CN c) (hg : GN c) : addN c zN = c := by
  by_cases hz : c = zN
  · subst hz; rfl
  · have hT := CN_told h hz
    have ht := h
    rcases ht with ht | ⟨h1, h2, h3, h4, h5, m, h6⟩
    · exact absurd ht hz
    · obtain ⟨n, l, x⟩ := c
      simp only at h1 h2 h3 h4 h5 h6 hT
      show numD (toldF (whAddN n (lx l x 0) false (ly [] x 0)) (whAddL n (lx l x 0) false (ly [] x 0)) (lev x 0)) = ⟨n, l, x⟩
      have hlev := lev_le x 0
      have e1 : ly [] x 0 = [] := shl_nil (by omega)
      have hs : x - lev x 0 ≤ 32768 := by omega
      have o1 := okS_shl (y := lev x 0) hg hs
      have vk : val (lx l x 0) = val l * 2 ^ (x - lev x 0).toNat := val_shl (by omega) h1
      have hp : (0 : Int) < 2 ^ (x - lev x 0).toNat := Int.pow_pos (by omega)
      have v0 : val (lx l x 0) ≠ 0 := by
        rw [vk]
        intro e
        rcases Int.mul_eq_zero.1 e with e | e <;> omega
      rw [e1]
      have hok : okS (lx l x 0) := o1
      have hll : (lx l x 0).length ≤ 1537 := len_shl hg hs
      obtain ⟨K, hK⟩ : ∃ K, lx l x 0 = K := ⟨_, rfl⟩
      rw [hK] at vk v0 hok hll ⊢
      have va : val (addF K []) = val K := by rw [val_add hok.2 u64s_nil]; simp [val]
      have vs : val (subF K []) = val K := by
        unfold subF
        rw [if_neg (cmpF_nil K)]
        have hk0 := (val_bd hok.2).1
        rw [val_subG hok.2 u64s_nil (by simp) (by simpa [val] using hk0)]
        simp [val]
      have eN : whAddN n K false [] = n := by
        unfold whAddN mdN
        cases n with
        | false => simp
        | true =>
          rw [if_neg (by simp), if_neg (cmpF_nil K)]
          have : 0 < (normF (subF K [])).length := by
            rcases Nat.eq_zero_or_pos (normF (subF K [])).length with e | e
            · have e' := List.eq_nil_of_length_eq_zero e
              have := val_norm (subF K [])
              rw [e', vs] at this
              exact absurd this.symm v0
            · exact e
          simp [this]
      have eL : val (whAddL n K false []) = val K := by
        unfold whAddL
        rw [val_norm]
        split
        · exact va
        · exact vs
      have okW : okS (whAddL n K false []) := okS_wa (by omega) (by simp)
      rw [eN, told_eq n (lev x 0) x 0 (x - lev x 0).toNat okW.2 h1 okW.1 (by omega) (by rw [eL, vk]; simp) (by omega), hT]
      rfl
theorem CN_add (a b : Num) (ha : GN a) (hb : GN b) : CN (addN a b) := by
  have := lx_ok ha hb
  have ok : okS (whAddL a.n (lx a.l a.x b.x) b.n (ly b.l a.x b.x)) := okS_wa (by omega) (by omega)
  exact told_CN _ _ ok.2 ok.1
theorem mulN_zN (a : Num) (ha : GN a) : mulN a zN = zN := by
  show numD (toldF (mdN (a.n != false) (mulF a.l [])) (normF (mulF a.l [])) (a.x + 0)) = zN
  have hv : val (normF (mulF a.l [])) = 0 := by
    rw [val_norm]
    unfold mulF
    rw [val_norm]
    simp only [mulL]
    exact val_zeros _
  rw [told_zero _ _ (normF_u64 (mulF_ok _ _)) hv]
  rfl
end Go.Proofs.YtejmahnbecglfaaDoor.Den
end
