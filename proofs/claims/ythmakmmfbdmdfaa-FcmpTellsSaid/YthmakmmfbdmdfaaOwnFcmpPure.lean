/- The plain law behind FcmpTells, joined to the walk: which one of any two numbers is greater is as of the exact ones; no conditions. -/
import Derived.Test.YthmakmmfbdmdfaaOwnLaw
set_option linter.unusedVariables false
set_option linter.unusedSimpArgs false
namespace Go.Proofs.Ythmakmmfbdmdfaa.Pure
open Go.RowKit Go.Proofs.Ythmakmmfbdmdfaa Go.Proofs.Ythmakmmfbdmdfaa.PFcmpTells Go.Proofs.Ythmakmmfbdmdfaa.OwnDig Go.Proofs.Ythmakmmfbdmdfaa.OwnNum Go.Proofs.YthmakmmfbdmdfaaW.PrintWords Go.Proofs.YthmakmmfbdmdfaaW.PrintLast Go.Proofs.YthmakmmfbdmdfaaW.PrintMore

namespace FcmpTellsL
theorem ww {x : Int} (h0 : -9223372036854775808 ≤ x) (h1 : x ≤ 9223372036854775807) : wrap64 x = x := by unfold wrap64; omega
theorem uw {x : Int} (h0 : 0 ≤ x) (h1 : x < 18446744073709551616) : IntKind.u64.wrap x = x := by
  simp only [IntKind.wrap, IntKind.bits, IntKind.signed]
  simp only [Bool.false_and]
  rw [if_neg (by simp)]
  omega
theorem uwf {x : Int} (h : (Lit.int .u64 x).wf = true) : 0 ≤ x ∧ x < 18446744073709551616 := by
  have : 0 ≤ x ∧ x ≤ 18446744073709551615 := by simpa [Lit.wf, IntKind.min, IntKind.max, IntKind.signed, IntKind.bits] using h
  omega
theorem uw' (n : Int) (h0 : 0 ≤ n) (h1 : n < 2 ^ 64) : IntKind.u64.wrap n = n := uw h0 (by simpa using h1)
theorem tmodn {a b : Int} (h : 0 ≤ a) : Int.tmod a b = a % b := Int.tmod_eq_emod_of_nonneg h
theorem tdivn {a b : Int} (h : 0 ≤ a) : Int.tdiv a b = a / b := Int.tdiv_eq_ediv_of_nonneg h
/-- the highest bit alone -/
theorem nand_top {a : Nat} (h : a < 2 ^ 64) : a &&& 2 ^ 63 = if a < 2 ^ 63 then 0 else 2 ^ 63 := by
  apply Nat.eq_of_testBit_eq
  intro i
  rw [Nat.testBit_and, Nat.testBit_two_pow]
  split
  · rename_i h2
    rw [Nat.zero_testBit]
    by_cases e : 63 = i
    · subst e; rw [Nat.testBit_lt_two_pow h2]; rfl
    · rw [decide_eq_false e]; simp
  · rename_i h2
    rw [Nat.testBit_two_pow]
    by_cases e : 63 = i
    · subst e
      obtain ⟨b, rfl⟩ : ∃ b, a = 2 ^ 63 + b := ⟨a - 2 ^ 63, by omega⟩
      rw [Nat.testBit_two_pow_add_eq, Nat.testBit_lt_two_pow (by omega)]; rfl
    · rw [decide_eq_false e]; simp
theorem nxor_top {a : Nat} (h : a < 2 ^ 64) : a ^^^ 2 ^ 63 = (a + 2 ^ 63) % 2 ^ 64 := by
  apply Nat.eq_of_testBit_eq
  intro i
  rw [Nat.testBit_xor, Nat.testBit_two_pow]
  by_cases h2 : a < 2 ^ 63
  · rw [Nat.mod_eq_of_lt (by omega), Nat.add_comm]
    by_cases e : 63 = i
    · subst e; rw [Nat.testBit_two_pow_add_eq, Nat.testBit_lt_two_pow h2]; rfl
    · rw [decide_eq_false e]
      by_cases e2 : i < 63
      · rw [Nat.testBit_two_pow_add_gt e2]; simp
      · rw [Nat.testBit_lt_two_pow (Nat.lt_of_lt_of_le h2 (Nat.pow_le_pow_right (by omega) (by omega))), Nat.testBit_lt_two_pow]; rfl
        exact Nat.lt_of_lt_of_le (show 2 ^ 63 + a < 2 ^ 64 by omega) (Nat.pow_le_pow_right (by omega) (by omega))
  · obtain ⟨b, rfl⟩ : ∃ b, a = 2 ^ 63 + b := ⟨a - 2 ^ 63, by omega⟩
    have hb : b < 2 ^ 63 := by omega
    rw [show (2 ^ 63 + b + 2 ^ 63) % 2 ^ 64 = b by omega]
    by_cases e : 63 = i
    · subst e; rw [Nat.testBit_two_pow_add_eq, Nat.testBit_lt_two_pow hb]; rfl
    · rw [decide_eq_false e]
      by_cases e2 : i < 63
      · rw [Nat.testBit_two_pow_add_gt e2]; simp
      · rw [Nat.testBit_lt_two_pow (Nat.lt_of_lt_of_le hb (Nat.pow_le_pow_right (by omega) (by omega))), Nat.testBit_lt_two_pow]; rfl
        exact Nat.lt_of_lt_of_le h (Nat.pow_le_pow_right (by omega) (by omega))
theorem u64_and {a b : Nat} (ha : a < 2 ^ 64) (hb : b < 2 ^ 64) : Go.bits .and .u64 a b = ((a &&& b : Nat) : Int) := (Go.bits_nat .u64 64 (by decide) uw' a b ha hb).1
theorem u64_or {a b : Nat} (ha : a < 2 ^ 64) (hb : b < 2 ^ 64) : Go.bits .or .u64 a b = ((a ||| b : Nat) : Int) := (Go.bits_nat .u64 64 (by decide) uw' a b ha hb).2
theorem u64_xor {a b : Nat} (ha : a < 2 ^ 64) (hb : b < 2 ^ 64) : Go.bits .xor .u64 a b = ((a ^^^ b : Nat) : Int) := by
  have ha' : a % 2 ^ 64 = a := Nat.mod_eq_of_lt ha
  have hb' : b % 2 ^ 64 = b := Nat.mod_eq_of_lt hb
  have hk : (IntKind.u64).bits = 64 := rfl
  simp only [Go.bits, BitVec.ofInt_natCast, BitVec.toNat_xor, BitVec.toNat_ofNat, hk, ha', hb']
  exact uw' _ (Int.natCast_nonneg _) (by exact_mod_cast Nat.xor_lt_two_pow ha hb)
theorem and_top {a : Int} (h0 : 0 ≤ a) (h1 : a < 18446744073709551616) : Go.bits .and .u64 a 9223372036854775808 = if a < 9223372036854775808 then 0 else 9223372036854775808 := by
  obtain ⟨n, rfl⟩ := Int.eq_ofNat_of_zero_le h0
  have := u64_and (a := n) (b := 2 ^ 63) (by omega) (by omega)
  rw [show ((2 ^ 63 : Nat) : Int) = 9223372036854775808 from by rfl] at this
  rw [this, nand_top (by omega)]
  split
  · rw [if_pos (by omega)]; rfl
  · rw [if_neg (by omega)]; rfl
theorem xor_top {a : Int} (h0 : 0 ≤ a) (h1 : a < 18446744073709551616) : Go.bits .xor .u64 a 9223372036854775808 = (a + 9223372036854775808) % 18446744073709551616 := by
  obtain ⟨n, rfl⟩ := Int.eq_ofNat_of_zero_le h0
  have := u64_xor (a := n) (b := 2 ^ 63) (by omega) (by omega)
  rw [show ((2 ^ 63 : Nat) : Int) = 9223372036854775808 from by rfl] at this
  rw [this, nxor_top (by omega)]
  omega
theorem or_top {a : Int} (h0 : 0 ≤ a) (h1 : a < 9223372036854775808) : Go.bits .or .u64 a 9223372036854775808 = a + 9223372036854775808 := by
  obtain ⟨n, rfl⟩ := Int.eq_ofNat_of_zero_le h0
  have := u64_or (a := n) (b := 2 ^ 63) (by omega) (by omega)
  rw [show ((2 ^ 63 : Nat) : Int) = 9223372036854775808 from by rfl] at this
  have e := Nat.two_pow_add_eq_or_of_lt (i := 63) (b := n) (by omega) 1
  rw [Nat.mul_one] at e
  rw [this, Nat.or_comm, ← e]
  omega
theorem andNot_top {a : Int} (h0 : 0 ≤ a) (h1 : a < 18446744073709551616) : Go.bits .andNot .u64 a 9223372036854775808 = a % 9223372036854775808 := by
  obtain ⟨n, rfl⟩ := Int.eq_ofNat_of_zero_le h0
  have e1 : ~~~(BitVec.ofInt 64 9223372036854775808) = BitVec.ofNat 64 (2 ^ 63 - 1) := by decide
  show IntKind.u64.wrap ((((BitVec.ofInt 64 (n : Int)) &&& ~~~(BitVec.ofInt 64 9223372036854775808)).toNat : Nat) : Int) = _
  rw [e1, BitVec.ofInt_natCast, BitVec.toNat_and, BitVec.toNat_ofNat, BitVec.toNat_ofNat]
  rw [Nat.mod_eq_of_lt (show n < 2 ^ 64 by omega), Nat.mod_eq_of_lt (show 2 ^ 63 - 1 < 2 ^ 64 by omega), Nat.and_two_pow_sub_one_eq_mod]
  rw [uw (by omega) (by omega)]
  omega
theorem and_mask (i : Nat) (hi : i ≤ 64) {a m : Int} (h0 : 0 ≤ a) (h1 : a < 18446744073709551616) (hm : m = 2 ^ i - 1) : Go.bits .and .u64 a m = a % 2 ^ i := by
  rw [hm]; exact Go.bits_mask .u64 64 (by decide) uw' i hi a h0 (by simpa using h1)
/-- what a number is -/
def cls (a : Int) : Int := if a / 4503599627370496 % 2048 = 2047 then (if a % 4503599627370496 = 0 then 2 else 3) else if a / 4503599627370496 % 2048 = 0 ∧ a % 4503599627370496 = 0 then 0 else 1
theorem Class_eq {k : Nat} {a : Int} (hk : 1 ≤ k) (h0 : 0 ≤ a) (h1 : a < 18446744073709551616) : parts_Class.f k a = some (cls a) := by
  obtain ⟨k, rfl⟩ : ∃ j, k = j + 1 := ⟨k - 1, by omega⟩
  have e1 : Go.bits .and .u64 (a / 4503599627370496) 2047 = a / 4503599627370496 % 2048 := and_mask 11 (by omega) (by omega) (by omega) (by decide)
  have e2 : Go.bits .and .u64 a 4503599627370495 = a % 4503599627370496 := and_mask 52 (by omega) (by omega) (by omega) (by decide)
  unfold parts_Class.f
  rw [e1, e2]
  simp only [parts_Class.j0, cls]
  by_cases c1 : a / 4503599627370496 % 2048 = 2047
  · rw [if_pos c1, if_pos c1]
    by_cases c2 : a % 4503599627370496 = 0
    · rw [if_pos c2, if_neg (by simp [c2]), if_pos c1]
    · rw [if_neg c2, if_pos (by simpa using c2), if_pos c1]
  · rw [if_neg c1, if_neg c1, if_neg (by simp), if_neg c1]
    by_cases c2 : a / 4503599627370496 % 2048 = 0
    · rw [if_pos c2]
      by_cases c3 : a % 4503599627370496 = 0
      · rw [if_pos c3, if_pos ⟨c2, c3⟩]
      · rw [if_neg c3, if_neg (fun h => c3 h.2)]
    · rw [if_neg c2, if_neg (fun h => c2 h.1)]
theorem refClass_eq {k : Nat} {a : Int} (hk : 1 ≤ k) (h0 : 0 ≤ a) (h1 : a < 18446744073709551616) : vernierref06_Class.f k a = some (cls a) := by
  obtain ⟨k, rfl⟩ : ∃ j, k = j + 1 := ⟨k - 1, by omega⟩
  unfold vernierref06_Class.f
  rw [tdivn h0, uw (x := a / 4503599627370496) (by omega) (by omega), tmodn (a := a / 4503599627370496) (by omega), tmodn h0]
  simp only [vernierref06_Class.j0, cls]
  by_cases c1 : a / 4503599627370496 % 2048 = 2047
  · rw [if_pos c1, if_pos c1]
    by_cases c2 : a % 4503599627370496 = 0
    · rw [if_pos c2, if_neg (by simp; omega), if_pos c1]
    · rw [if_neg c2, if_pos (by simp; omega), if_pos c1]
  · rw [if_neg c1, if_neg c1, if_neg (by simp), if_neg c1]
    by_cases c2 : a / 4503599627370496 % 2048 = 0
    · rw [if_pos c2]
      by_cases c3 : a % 4503599627370496 = 0
      · rw [if_pos c3, if_pos ⟨c2, c3⟩]
      · rw [if_neg c3, if_neg (fun h => c3 h.2)]
    · rw [if_neg c2, if_neg (fun h => c2 h.1)]
theorem cls3 {a : Int} (h0 : 0 ≤ a) (h1 : a < 18446744073709551616) : cls a = 3 ↔ 9218868437227405312 < a % 9223372036854775808 := by
  unfold cls
  split
  · split <;> omega
  · split <;> omega
theorem cls2 {a : Int} (h0 : 0 ≤ a) (h1 : a < 18446744073709551616) : cls a = 2 ↔ 9218868437227405312 = a % 9223372036854775808 := by
  unfold cls
  split
  · split <;> omega
  · split <;> omega
/-- is it none? -/
def nan (a : Int) : Bool := decide (9218868437227405312 < a % 9223372036854775808)
theorem is_eq {k : Nat} {a : Int} (hk : 1 ≤ k) (h0 : 0 ≤ a) (h1 : a < 18446744073709551616) : fcmp_is.f k a = some (nan a) := by
  unfold fcmp_is.f nan
  rw [Class_eq hk h0 h1]
  simp only [Option.bind_some]
  congr 1
  rw [Bool.eq_iff_iff]; simp [cls3 h0 h1]
/-- a number's place -/
def plc (a : Int) : Int := if a < 9223372036854775808 then a else 9223372036854775808 - a
theorem place_eq {a : Int} (h0 : 0 ≤ a) (h1 : a < 18446744073709551616) : fcmp_place.f a = some (plc a) := by
  unfold fcmp_place.f plc
  rw [and_top h0 h1, andNot_top h0 h1]
  by_cases h : a < 9223372036854775808
  · rw [if_pos h, if_pos h, if_pos rfl, ww (by omega) (by omega)]
  · rw [if_neg h, if_neg h, if_neg (by omega), ww (x := a % 9223372036854775808) (by omega) (by omega), ww (by omega) (by omega)]
    congr 1; omega
theorem Cmp_eq {k : Nat} {a b : Int} (hk : 1 ≤ k) (ha0 : 0 ≤ a) (ha1 : a < 18446744073709551616) (hb0 : 0 ≤ b) (hb1 : b < 18446744073709551616) :
    fcmp_Cmp.f k a b = some (if nan a || nan b then (0, false) else (sgn (plc a) (plc b), true)) := by
  obtain ⟨k, rfl⟩ : ∃ j, k = j + 1 := ⟨k - 1, by omega⟩
  unfold fcmp_Cmp.f
  rw [place_eq ha0 ha1, place_eq hb0 hb1, is_eq (by omega) ha0 ha1, is_eq (by omega) hb0 hb1]
  simp only [Option.bind_some, fcmp_Cmp.j0]
  cases nan a <;> cases nan b <;> simp [sgn]
  repeat' split
  all_goals first | rfl | omega
theorem Less_eq {k : Nat} {a b : Int} (hk : 1 ≤ k) (ha0 : 0 ≤ a) (ha1 : a < 18446744073709551616) (hb0 : 0 ≤ b) (hb1 : b < 18446744073709551616) :
    fcmp_Less.f k a b = some (!nan a && !nan b && decide (plc a < plc b)) := by
  unfold fcmp_Less.f
  rw [Cmp_eq hk ha0 ha1 hb0 hb1]
  simp only [Option.bind_some]
  cases nan a <;> cases nan b <;> simp [sgn]
  repeat' split
  all_goals first | rfl | omega | (simp; omega)
theorem alive_eq {k : Nat} (hk : 1 ≤ k) : vernierlaw12_alive.f k = some true := by
  unfold vernierlaw12_alive.f
  rw [Cmp_eq hk (by omega) (by omega) (by omega) (by omega), Less_eq hk (by omega) (by omega) (by omega) (by omega)]
  decide +kernel
/-! ### what the exact numbers tell -/
theorem tp (n : Nat) : (0 : Int) < 2 ^ n := Int.pow_pos (by omega)
/-- a magnitude's value, in units of 2^-1074 -/
def V (u : Int) : Int := if u / 4503599627370496 = 0 then u else (4503599627370496 + u % 4503599627370496) * 2 ^ (u / 4503599627370496 - 1).toNat
theorem tp_mono {a b : Nat} (h : a ≤ b) : (2 : Int) ^ a ≤ 2 ^ b := by
  obtain ⟨c, rfl⟩ := Nat.le.dest h
  rw [Int.pow_add]
  have h0 := tp c
  have h1 := Int.mul_le_mul_of_nonneg_left (a := 1) (b := (2 : Int) ^ c) (c := 2 ^ a) (by omega) (Int.le_of_lt (tp a))
  omega
theorem V_lt {u v : Int} (hu : 0 ≤ u) (h : u < v) : V u < V v := by
  unfold V
  by_cases e1 : v / 4503599627370496 = 0
  · rw [if_pos e1, if_pos (by omega)]; exact h
  · rw [if_neg e1]
    obtain ⟨y, hy⟩ : ∃ y : Nat, (v / 4503599627370496 - 1).toNat = y := ⟨_, rfl⟩
    rw [hy]
    have hv : 4503599627370496 * 2 ^ y ≤ (4503599627370496 + v % 4503599627370496) * 2 ^ y := Int.mul_le_mul_of_nonneg_right (by omega) (Int.le_of_lt (tp y))
    by_cases e2 : u / 4503599627370496 = 0
    · rw [if_pos e2]
      have := tp y
      omega
    · rw [if_neg e2]
      obtain ⟨x, hx⟩ : ∃ x : Nat, (u / 4503599627370496 - 1).toNat = x := ⟨_, rfl⟩
      rw [hx]
      by_cases e3 : u / 4503599627370496 = v / 4503599627370496
      · obtain rfl : x = y := by omega
        exact Int.mul_lt_mul_of_pos_right (by omega) (tp x)
      · have h1 : (4503599627370496 + u % 4503599627370496) * 2 ^ x < 9007199254740992 * 2 ^ x := Int.mul_lt_mul_of_pos_right (by omega) (tp x)
        have h2 := tp_mono (a := x + 1) (b := y) (by omega)
        rw [Int.pow_succ] at h2
        omega
theorem sgn_mul {x y c : Int} (hc : 0 < c) : sgn (x * c) (y * c) = sgn x y := by
  rcases Int.lt_trichotomy x y with h | h | h
  · rw [sgn_lt h, sgn_lt (Int.mul_lt_mul_of_pos_right h hc)]
  · rw [sgn_eq h, sgn_eq (by rw [h])]
  · rw [sgn_gt h, sgn_gt (Int.mul_lt_mul_of_pos_right h hc)]
theorem sgn_V {u v : Int} (hu : 0 ≤ u) (hv : 0 ≤ v) : sgn (V u) (V v) = sgn u v := by
  rcases Int.lt_trichotomy u v with h | h | h
  · rw [sgn_lt h, sgn_lt (V_lt hu h)]
  · rw [h, sgn_eq rfl, sgn_eq rfl]
  · rw [sgn_gt h, sgn_gt (V_lt hv h)]
/-- significand and exponent of a magnitude -/
def sm (u : Int) : Int := if u / 4503599627370496 = 0 then u % 4503599627370496 else u % 4503599627370496 + 4503599627370496
def se (u : Int) : Int := if u / 4503599627370496 = 0 then -1074 else u / 4503599627370496 - 1075
theorem V_eq {u : Int} (h0 : 0 ≤ u) : V u = sm u * 2 ^ (se u + 1074).toNat := by
  unfold V sm se
  by_cases e : u / 4503599627370496 = 0
  · rw [if_pos e, if_pos e, if_pos e]
    simp; omega
  · rw [if_neg e, if_neg e, if_neg e, show (u / 4503599627370496 - 1075 + 1074).toNat = (u / 4503599627370496 - 1).toNat by omega, Int.add_comm]
theorem shifted {u v : Int} (hu0 : 0 ≤ u) (hu1 : u < 9218868437227405312) (hv0 : 0 ≤ v) (hv1 : v < 9218868437227405312) :
    sgn (sm u * 2 ^ (se u - mn (se u) (se v)).toNat) (sm v * 2 ^ (se v - mn (se u) (se v)).toNat) = sgn u v := by
  have n1 : mn (se u) (se v) ≤ se u := by unfold mn; split <;> omega
  have n2 : mn (se u) (se v) ≤ se v := by unfold mn; split <;> omega
  have n3 : -1074 ≤ mn (se u) (se v) := by
    have a : -1074 ≤ se u := by unfold se; split <;> omega
    have b : -1074 ≤ se v := by unfold se; split <;> omega
    unfold mn; split <;> omega
  rw [← sgn_V hu0 hv0, V_eq hu0, V_eq hv0]
  generalize mn (se u) (se v) = e at *
  have r1 : (se u + 1074).toNat = (se u - e).toNat + (e + 1074).toNat := by omega
  have r2 : (se v + 1074).toNat = (se v - e).toNat + (e + 1074).toNat := by omega
  rw [r1, r2, Int.pow_add, Int.pow_add, ← Int.mul_assoc, ← Int.mul_assoc, sgn_mul (tp _)]
theorem Split_eq {a : Int} (h0 : 0 ≤ a) (h1 : a < 18446744073709551616) : vernierref06_Split.f a = some (decide (9223372036854775808 ≤ a), sm (a % 9223372036854775808), se (a % 9223372036854775808)) := by
  unfold vernierref06_Split.f sm se
  rw [tdivn h0, uw (x := a / 4503599627370496) (by omega) (by omega), tmodn (a := a / 4503599627370496) (by omega), tmodn h0, ww (x := a / 4503599627370496 % 2048) (by omega) (by omega)]
  have r1 : a % 9223372036854775808 / 4503599627370496 = a / 4503599627370496 % 2048 := by omega
  have r2 : a % 9223372036854775808 % 4503599627370496 = a % 4503599627370496 := by omega
  rw [r1, r2]
  by_cases e : a / 4503599627370496 % 2048 = 0
  · rw [if_pos e, if_pos e, if_pos e]
  · rw [if_neg e, if_neg e, if_neg e, uw (by omega) (by omega), ww (by omega) (by omega)]
theorem sm_bd {u : Int} (h0 : 0 ≤ u) (h1 : u < 9223372036854775808) : 0 ≤ sm u ∧ sm u < 9007199254740992 := by unfold sm; split <;> omega
theorem se_bd {u : Int} (h0 : 0 ≤ u) (h1 : u < 9218868437227405312) : -1074 ≤ se u ∧ se u ≤ 971 := by unfold se; split <;> omega
theorem sm_zero {u : Int} (h0 : 0 ≤ u) : sm u = 0 ↔ u = 0 := by unfold sm; split <;> omega
theorem tells_eq {a b : Int} (a0 : 0 ≤ a) (a1 : a < 18446744073709551616) (b0 : 0 ≤ b) (b1 : b < 18446744073709551616) :
    tells (decide (9223372036854775808 ≤ a)) (decide (9223372036854775808 ≤ b)) (sm (a % 9223372036854775808)) (sm (b % 9223372036854775808)) (sgn (a % 9223372036854775808) (b % 9223372036854775808)) = sgn (plc a) (plc b) := by
  unfold tells
  simp only [sm_zero (show 0 ≤ a % 9223372036854775808 by omega), sm_zero (show 0 ≤ b % 9223372036854775808 by omega), decide_eq_true_eq, decide_eq_false_iff_not]
  unfold plc sgn
  repeat' split
  all_goals omega
theorem rank_eq {k : Nat} {a : Int} (hk : 1 ≤ k) (h0 : 0 ≤ a) (h1 : a < 18446744073709551616) : vernierlaw12_rank.f k a = some (if cls a = 2 then (if 9223372036854775808 ≤ a then -1 else 1) else 0) := by
  unfold vernierlaw12_rank.f
  rw [refClass_eq hk h0 h1]
  simp only [Option.bind_some]
  by_cases e : cls a = 2
  · rw [if_pos e, if_pos e]
    by_cases f : 9223372036854775808 ≤ a
    · rw [if_pos f, if_pos (by omega)]
    · rw [if_neg f, if_neg (by omega)]
  · rw [if_neg e, if_neg e]
theorem order_calls (a b : Int) (w : World) (a0 : 0 ≤ a) (a1 : a < 18446744073709551616) (b0 : 0 ≤ b) (b1 : b < 18446744073709551616) (na : nan a = false) (nb : nan b = false) :
    Calls Try.prog 15 #[.int .u64 a, .int .u64 b] w fun e w' => ∃ r, e = .returned (.int .i64 r) ∧ -2 ≤ r ∧ r ≤ 2 ∧ sgn r 0 = sgn (plc a) (plc b) ∧ Below w.heap.size w w' := by
  have ma : a % 9223372036854775808 ≤ 9218868437227405312 := by have : ¬ (9218868437227405312 < a % 9223372036854775808) := by simpa [nan] using na; 
                                                                omega
  have mb : b % 9223372036854775808 ≤ 9218868437227405312 := by have : ¬ (9218868437227405312 < b % 9223372036854775808) := by simpa [nan] using nb; 
                                                                omega
  have ca := cls2 a0 a1
  have cb := cls2 b0 b1
  by_cases h : cls a = 2 ∨ cls b = 2
  · refine (order_inf 1 a b (cls a) (cls b) _ _ w ⟨refClass_eq (Nat.le_refl _) a0 a1⟩ ⟨refClass_eq (Nat.le_refl _) b0 b1⟩ h ⟨rank_eq (Nat.le_refl _) a0 a1⟩ ⟨rank_eq (Nat.le_refl _) b0 b1⟩ (by split <;> (try split) <;> omega) (by split <;> (try split) <;> omega)).mono ?_
    rintro e w' ⟨rfl, hb⟩
    refine ⟨_, rfl, ?_, ?_, ?_, hb⟩
    · split <;> split <;> (try split) <;> (try split) <;> omega
    · split <;> split <;> (try split) <;> (try split) <;> omega
    · simp only [ca, cb] at h ⊢
      unfold sgn plc
      (repeat' split) <;> omega
  · have h1 : cls a ≠ 2 := fun e => h (.inl e)
    have h2 : cls b ≠ 2 := fun e => h (.inr e)
    have ua : a % 9223372036854775808 < 9218868437227405312 := by omega
    have ub : b % 9223372036854775808 < 9218868437227405312 := by omega
    have sa := sm_bd (u := a % 9223372036854775808) (by omega) (by omega)
    have sb := sm_bd (u := b % 9223372036854775808) (by omega) (by omega)
    have ea := se_bd (u := a % 9223372036854775808) (by omega) ua
    have eb := se_bd (u := b % 9223372036854775808) (by omega) ub
    refine (order_fin 1 a b (cls a) (cls b) _ _ _ _ _ _ w ⟨refClass_eq (Nat.le_refl _) a0 a1⟩ ⟨refClass_eq (Nat.le_refl _) b0 b1⟩ h1 h2 ⟨Split_eq a0 a1⟩ ⟨Split_eq b0 b1⟩ sa.1 (by omega) sb.1 (by omega) ea.1 ea.2 eb.1 eb.2).mono ?_
    rintro e w' ⟨rfl, hb⟩
    rw [shifted (by omega) ua (by omega) ub, tells_eq a0 a1 b0 b1]
    refine ⟨_, rfl, ?_, ?_, ?_, hb⟩
    · unfold sgn; split <;> (try split) <;> omega
    · unfold sgn; split <;> (try split) <;> omega
    · unfold sgn; repeat' split
      all_goals omega
theorem FcmpTells_calls (a b : Int) (w : World) (ha : (Lit.int .u64 a).wf = true) (hb : (Lit.int .u64 b).wf = true) :
    Calls Try.prog 3 #[.int .u64 a, .int .u64 b] w fun e w' => e = .returned (.bool true) ∧ Below w.heap.size w w' := by
  obtain ⟨a0, a1⟩ := uwf ha
  obtain ⟨b0, b1⟩ := uwf hb
  have hC := Cmp_eq (k := 1) (Nat.le_refl _) a0 a1 b0 b1
  have hL := Less_eq (k := 1) (Nat.le_refl _) a0 a1 b0 b1
  have hA := alive_eq (k := 1) (Nat.le_refl _)
  have c1 := refClass_eq (k := 1) (Nat.le_refl _) a0 a1
  have c2 := refClass_eq (k := 1) (Nat.le_refl _) b0 b1
  have i1 := cls3 a0 a1
  have i2 := cls3 b0 b1
  by_cases h : nan a = true ∨ nan b = true
  · refine tells_nan 1 a b (cls a) (cls b) w ⟨?_⟩ ⟨?_⟩ ⟨hA⟩ ⟨c1⟩ ⟨c2⟩ ?_
    · rw [hC, if_pos (by simpa using h)]
    · rw [hL]; rcases h with h | h <;> simp [h]
    · rcases h with h | h
      · left; rw [i1]; simpa [nan] using h
      · right; rw [i2]; simpa [nan] using h
  · have na : nan a = false := by simpa using fun e => h (.inl e)
    have nb : nan b = false := by simpa using fun e => h (.inr e)
    refine tells_num 1 a b (cls a) (cls b) (sgn (plc a) (plc b)) (decide (plc a < plc b)) w ⟨?_⟩ ⟨?_⟩ ⟨hA⟩ ⟨c1⟩ ⟨c2⟩ ?_ ?_ ?_ (fun W => order_calls a b W a0 a1 b0 b1 na nb)
    · rw [hC, na, nb]; rfl
    · rw [hL, na, nb]; rfl
    · intro e; rw [i1] at e; simp [nan] at na; omega
    · intro e; rw [i2] at e; simp [nan] at nb; omega
    · unfold sgn; by_cases c : plc a < plc b
      · rw [if_pos c, decide_eq_true c]; rfl
      · rw [if_neg c, decide_eq_false c]; split <;> rfl
end FcmpTellsL
end Go.Proofs.Ythmakmmfbdmdfaa.Pure
