/- The plain law behind FcmpNext: the next number is above with none between, and back it is the same but for zeros; no conditions. -/
import Derived.Test.YthmakmmfbdmdfaaPFcmpNextx2
set_option linter.unusedVariables false
set_option linter.unusedSimpArgs false
namespace Go.Proofs.Ythmakmmfbdmdfaa.Pure
open Go.RowKit Go.Proofs.Ythmakmmfbdmdfaa.PFcmpNext Go.Proofs.YthmakmmfbdmdfaaW.PrintWords Go.Proofs.YthmakmmfbdmdfaaW.PrintLast Go.Proofs.YthmakmmfbdmdfaaW.PrintMore

namespace FcmpNextL
theorem ww {x : Int} (h0 : -9223372036854775808 ≤ x) (h1 : x ≤ 9223372036854775807) : wrap64 x = x := by unfold wrap64; omega
theorem uw {x : Int} (h0 : 0 ≤ x) (h1 : x < 18446744073709551616) : IntKind.u64.wrap x = x := by
  simp only [IntKind.wrap, IntKind.bits, IntKind.signed]
  simp only [Bool.false_and]
  rw [if_neg (by simp)]
  omega
theorem uwf {x : Int} (h : (Lit.int .u64 x).wf = true) : 0 ≤ x ∧ x < 18446744073709551616 := by
  have : 0 ≤ x ∧ x ≤ 18446744073709551615 := by simpa [Lit.wf, IntKind.min, IntKind.max, IntKind.signed, IntKind.bits] using h
  omega
theorem uw' (n : Int) (h0 : 0 ≤ n) (h1 : n < 2 ^ 64) : IntKind.u64.wrap n = n := uw h0 (by simpa using h1)
theorem tmodn {a b : Int} (h : 0 ≤ a) : Int.tmod a b = a % b := Int.tmod_eq_emod_of_nonneg h
theorem tdivn {a b : Int} (h : 0 ≤ a) : Int.tdiv a b = a / b := Int.tdiv_eq_ediv_of_nonneg h
/-- the highest bit alone -/
theorem nand_top {a : Nat} (h : a < 2 ^ 64) : a &&& 2 ^ 63 = if a < 2 ^ 63 then 0 else 2 ^ 63 := by
  apply Nat.eq_of_testBit_eq
  intro i
  rw [Nat.testBit_and, Nat.testBit_two_pow]
  split
  · rename_i h2
    rw [Nat.zero_testBit]
    by_cases e : 63 = i
    · subst e; rw [Nat.testBit_lt_two_pow h2]; rfl
    · rw [decide_eq_false e]; simp
  · rename_i h2
    rw [Nat.testBit_two_pow]
    by_cases e : 63 = i
    · subst e
      obtain ⟨b, rfl⟩ : ∃ b, a = 2 ^ 63 + b := ⟨a - 2 ^ 63, by omega⟩
      rw [Nat.testBit_two_pow_add_eq, Nat.testBit_lt_two_pow (by omega)]; rfl
    · rw [decide_eq_false e]; simp
theorem nxor_top {a : Nat} (h : a < 2 ^ 64) : a ^^^ 2 ^ 63 = (a + 2 ^ 63) % 2 ^ 64 := by
  apply Nat.eq_of_testBit_eq
  intro i
  rw [Nat.testBit_xor, Nat.testBit_two_pow]
  by_cases h2 : a < 2 ^ 63
  · rw [Nat.mod_eq_of_lt (by omega), Nat.add_comm]
    by_cases e : 63 = i
    · subst e; rw [Nat.testBit_two_pow_add_eq, Nat.testBit_lt_two_pow h2]; rfl
    · rw [decide_eq_false e]
      by_cases e2 : i < 63
      · rw [Nat.testBit_two_pow_add_gt e2]; simp
      · rw [Nat.testBit_lt_two_pow (Nat.lt_of_lt_of_le h2 (Nat.pow_le_pow_right (by omega) (by omega))), Nat.testBit_lt_two_pow]; rfl
        exact Nat.lt_of_lt_of_le (show 2 ^ 63 + a < 2 ^ 64 by omega) (Nat.pow_le_pow_right (by omega) (by omega))
  · obtain ⟨b, rfl⟩ : ∃ b, a = 2 ^ 63 + b := ⟨a - 2 ^ 63, by omega⟩
    have hb : b < 2 ^ 63 := by omega
    rw [show (2 ^ 63 + b + 2 ^ 63) % 2 ^ 64 = b by omega]
    by_cases e : 63 = i
    · subst e; rw [Nat.testBit_two_pow_add_eq, Nat.testBit_lt_two_pow hb]; rfl
    · rw [decide_eq_false e]
      by_cases e2 : i < 63
      · rw [Nat.testBit_two_pow_add_gt e2]; simp
      · rw [Nat.testBit_lt_two_pow (Nat.lt_of_lt_of_le hb (Nat.pow_le_pow_right (by omega) (by omega))), Nat.testBit_lt_two_pow]; rfl
        exact Nat.lt_of_lt_of_le h (Nat.pow_le_pow_right (by omega) (by omega))
theorem u64_and {a b : Nat} (ha : a < 2 ^ 64) (hb : b < 2 ^ 64) : Go.bits .and .u64 a b = ((a &&& b : Nat) : Int) := (Go.bits_nat .u64 64 (by decide) uw' a b ha hb).1
theorem u64_or {a b : Nat} (ha : a < 2 ^ 64) (hb : b < 2 ^ 64) : Go.bits .or .u64 a b = ((a ||| b : Nat) : Int) := (Go.bits_nat .u64 64 (by decide) uw' a b ha hb).2
theorem u64_xor {a b : Nat} (ha : a < 2 ^ 64) (hb : b < 2 ^ 64) : Go.bits .xor .u64 a b = ((a ^^^ b : Nat) : Int) := by
  have ha' : a % 2 ^ 64 = a := Nat.mod_eq_of_lt ha
  have hb' : b % 2 ^ 64 = b := Nat.mod_eq_of_lt hb
  have hk : (IntKind.u64).bits = 64 := rfl
  simp only [Go.bits, BitVec.ofInt_natCast, BitVec.toNat_xor, BitVec.toNat_ofNat, hk, ha', hb']
  exact uw' _ (Int.natCast_nonneg _) (by exact_mod_cast Nat.xor_lt_two_pow ha hb)
theorem and_top {a : Int} (h0 : 0 ≤ a) (h1 : a < 18446744073709551616) : Go.bits .and .u64 a 9223372036854775808 = if a < 9223372036854775808 then 0 else 9223372036854775808 := by
  obtain ⟨n, rfl⟩ := Int.eq_ofNat_of_zero_le h0
  have := u64_and (a := n) (b := 2 ^ 63) (by omega) (by omega)
  rw [show ((2 ^ 63 : Nat) : Int) = 9223372036854775808 from by rfl] at this
  rw [this, nand_top (by omega)]
  split
  · rw [if_pos (by omega)]; rfl
  · rw [if_neg (by omega)]; rfl
theorem xor_top {a : Int} (h0 : 0 ≤ a) (h1 : a < 18446744073709551616) : Go.bits .xor .u64 a 9223372036854775808 = (a + 9223372036854775808) % 18446744073709551616 := by
  obtain ⟨n, rfl⟩ := Int.eq_ofNat_of_zero_le h0
  have := u64_xor (a := n) (b := 2 ^ 63) (by omega) (by omega)
  rw [show ((2 ^ 63 : Nat) : Int) = 9223372036854775808 from by rfl] at this
  rw [this, nxor_top (by omega)]
  omega
theorem or_top {a : Int} (h0 : 0 ≤ a) (h1 : a < 9223372036854775808) : Go.bits .or .u64 a 9223372036854775808 = a + 9223372036854775808 := by
  obtain ⟨n, rfl⟩ := Int.eq_ofNat_of_zero_le h0
  have := u64_or (a := n) (b := 2 ^ 63) (by omega) (by omega)
  rw [show ((2 ^ 63 : Nat) : Int) = 9223372036854775808 from by rfl] at this
  have e := Nat.two_pow_add_eq_or_of_lt (i := 63) (b := n) (by omega) 1
  rw [Nat.mul_one] at e
  rw [this, Nat.or_comm, ← e]
  omega
theorem andNot_top {a : Int} (h0 : 0 ≤ a) (h1 : a < 18446744073709551616) : Go.bits .andNot .u64 a 9223372036854775808 = a % 9223372036854775808 := by
  obtain ⟨n, rfl⟩ := Int.eq_ofNat_of_zero_le h0
  have e1 : ~~~(BitVec.ofInt 64 9223372036854775808) = BitVec.ofNat 64 (2 ^ 63 - 1) := by decide
  show IntKind.u64.wrap ((((BitVec.ofInt 64 (n : Int)) &&& ~~~(BitVec.ofInt 64 9223372036854775808)).toNat : Nat) : Int) = _
  rw [e1, BitVec.ofInt_natCast, BitVec.toNat_and, BitVec.toNat_ofNat, BitVec.toNat_ofNat]
  rw [Nat.mod_eq_of_lt (show n < 2 ^ 64 by omega), Nat.mod_eq_of_lt (show 2 ^ 63 - 1 < 2 ^ 64 by omega), Nat.and_two_pow_sub_one_eq_mod]
  rw [uw (by omega) (by omega)]
  omega
theorem and_mask (i : Nat) (hi : i ≤ 64) {a m : Int} (h0 : 0 ≤ a) (h1 : a < 18446744073709551616) (hm : m = 2 ^ i - 1) : Go.bits .and .u64 a m = a % 2 ^ i := by
  rw [hm]; exact Go.bits_mask .u64 64 (by decide) uw' i hi a h0 (by simpa using h1)
/-- what a number is -/
def cls (a : Int) : Int := if a / 4503599627370496 % 2048 = 2047 then (if a % 4503599627370496 = 0 then 2 else 3) else if a / 4503599627370496 % 2048 = 0 ∧ a % 4503599627370496 = 0 then 0 else 1
theorem Class_eq {k : Nat} {a : Int} (hk : 1 ≤ k) (h0 : 0 ≤ a) (h1 : a < 18446744073709551616) : parts_Class.f k a = some (cls a) := by
  obtain ⟨k, rfl⟩ : ∃ j, k = j + 1 := ⟨k - 1, by omega⟩
  have e1 : Go.bits .and .u64 (a / 4503599627370496) 2047 = a / 4503599627370496 % 2048 := and_mask 11 (by omega) (by omega) (by omega) (by decide)
  have e2 : Go.bits .and .u64 a 4503599627370495 = a % 4503599627370496 := and_mask 52 (by omega) (by omega) (by omega) (by decide)
  unfold parts_Class.f
  rw [e1, e2]
  simp only [parts_Class.j0, cls]
  by_cases c1 : a / 4503599627370496 % 2048 = 2047
  · rw [if_pos c1, if_pos c1]
    by_cases c2 : a % 4503599627370496 = 0
    · rw [if_pos c2, if_neg (by simp [c2]), if_pos c1]
    · rw [if_neg c2, if_pos (by simpa using c2), if_pos c1]
  · rw [if_neg c1, if_neg c1, if_neg (by simp), if_neg c1]
    by_cases c2 : a / 4503599627370496 % 2048 = 0
    · rw [if_pos c2]
      by_cases c3 : a % 4503599627370496 = 0
      · rw [if_pos c3, if_pos ⟨c2, c3⟩]
      · rw [if_neg c3, if_neg (fun h => c3 h.2)]
    · rw [if_neg c2, if_neg (fun h => c2 h.1)]
theorem refClass_eq {k : Nat} {a : Int} (hk : 1 ≤ k) (h0 : 0 ≤ a) (h1 : a < 18446744073709551616) : vernierref06_Class.f k a = some (cls a) := by
  obtain ⟨k, rfl⟩ : ∃ j, k = j + 1 := ⟨k - 1, by omega⟩
  unfold vernierref06_Class.f
  rw [tdivn h0, uw (x := a / 4503599627370496) (by omega) (by omega), tmodn (a := a / 4503599627370496) (by omega), tmodn h0]
  simp only [vernierref06_Class.j0, cls]
  by_cases c1 : a / 4503599627370496 % 2048 = 2047
  · rw [if_pos c1, if_pos c1]
    by_cases c2 : a % 4503599627370496 = 0
    · rw [if_pos c2, if_neg (by simp; omega), if_pos c1]
    · rw [if_neg c2, if_pos (by simp; omega), if_pos c1]
  · rw [if_neg c1, if_neg c1, if_neg (by simp), if_neg c1]
    by_cases c2 : a / 4503599627370496 % 2048 = 0
    · rw [if_pos c2]
      by_cases c3 : a % 4503599627370496 = 0
      · rw [if_pos c3, if_pos ⟨c2, c3⟩]
      · rw [if_neg c3, if_neg (fun h => c3 h.2)]
    · rw [if_neg c2, if_neg (fun h => c2 h.1)]
theorem cls3 {a : Int} (h0 : 0 ≤ a) (h1 : a < 18446744073709551616) : cls a = 3 ↔ 9218868437227405312 < a % 9223372036854775808 := by
  unfold cls
  split
  · split <;> omega
  · split <;> omega
theorem cls2 {a : Int} (h0 : 0 ≤ a) (h1 : a < 18446744073709551616) : cls a = 2 ↔ 9218868437227405312 = a % 9223372036854775808 := by
  unfold cls
  split
  · split <;> omega
  · split <;> omega
/-- is it none? -/
def nan (a : Int) : Bool := decide (9218868437227405312 < a % 9223372036854775808)
theorem is_eq {k : Nat} {a : Int} (hk : 1 ≤ k) (h0 : 0 ≤ a) (h1 : a < 18446744073709551616) : fcmp_is.f k a = some (nan a) := by
  unfold fcmp_is.f nan
  rw [Class_eq hk h0 h1]
  simp only [Option.bind_some]
  congr 1
  rw [Bool.eq_iff_iff]; simp [cls3 h0 h1]
/-- a number's place -/
def plc (a : Int) : Int := if a < 9223372036854775808 then a else 9223372036854775808 - a
theorem place_eq {a : Int} (h0 : 0 ≤ a) (h1 : a < 18446744073709551616) : fcmp_place.f a = some (plc a) := by
  unfold fcmp_place.f plc
  rw [and_top h0 h1, andNot_top h0 h1]
  by_cases h : a < 9223372036854775808
  · rw [if_pos h, if_pos h, if_pos rfl, ww (by omega) (by omega)]
  · rw [if_neg h, if_neg h, if_neg (by omega), ww (x := a % 9223372036854775808) (by omega) (by omega), ww (by omega) (by omega)]
    congr 1; omega
def sgn (x y : Int) : Int := if x < y then -1 else if x > y then 1 else 0
theorem Cmp_eq {k : Nat} {a b : Int} (hk : 1 ≤ k) (ha0 : 0 ≤ a) (ha1 : a < 18446744073709551616) (hb0 : 0 ≤ b) (hb1 : b < 18446744073709551616) :
    fcmp_Cmp.f k a b = some (if nan a || nan b then (0, false) else (sgn (plc a) (plc b), true)) := by
  obtain ⟨k, rfl⟩ : ∃ j, k = j + 1 := ⟨k - 1, by omega⟩
  unfold fcmp_Cmp.f
  rw [place_eq ha0 ha1, place_eq hb0 hb1, is_eq (by omega) ha0 ha1, is_eq (by omega) hb0 hb1]
  simp only [Option.bind_some, fcmp_Cmp.j0]
  cases nan a <;> cases nan b <;> simp [sgn]
  repeat' split
  all_goals first | rfl | omega
theorem Less_eq {k : Nat} {a b : Int} (hk : 1 ≤ k) (ha0 : 0 ≤ a) (ha1 : a < 18446744073709551616) (hb0 : 0 ≤ b) (hb1 : b < 18446744073709551616) :
    fcmp_Less.f k a b = some (!nan a && !nan b && decide (plc a < plc b)) := by
  unfold fcmp_Less.f
  rw [Cmp_eq hk ha0 ha1 hb0 hb1]
  simp only [Option.bind_some]
  cases nan a <;> cases nan b <;> simp [sgn]
  repeat' split
  all_goals first | rfl | omega | (simp; omega)
theorem alive_eq {k : Nat} (hk : 1 ≤ k) : vernierlaw12_alive.f k = some true := by
  unfold vernierlaw12_alive.f
  rw [Cmp_eq hk (by omega) (by omega) (by omega) (by omega), Less_eq hk (by omega) (by omega) (by omega) (by omega)]
  decide +kernel
end FcmpNextL
open FcmpNextL

def ng (a : Int) : Int := if nan a then 9221120237041090560 else (a + 9223372036854775808) % 18446744073709551616
theorem Neg_eq {k : Nat} {a : Int} (hk : 1 ≤ k) (h0 : 0 ≤ a) (h1 : a < 18446744073709551616) : fcmp_Neg.f k a = some (ng a) := by
  unfold fcmp_Neg.f ng
  rw [is_eq hk h0 h1, xor_top h0 h1]
  simp only [Option.bind_some]
  cases nan a <;> rfl
def nxt (a : Int) : Int := if nan a then 9221120237041090560 else if a = 9218868437227405312 then a else if plc a + 1 = 0 then 9223372036854775808 else if plc a + 1 < 0 then 9223372036854775808 - (plc a + 1) else plc a + 1
theorem plc_bd {a : Int} (h0 : 0 ≤ a) (h1 : a < 18446744073709551616) : -9223372036854775808 < plc a ∧ plc a < 9223372036854775808 := by unfold plc; split <;> omega
theorem nan_no {a : Int} (h : nan a = false) : a % 9223372036854775808 ≤ 9218868437227405312 := by
  have : ¬ (9218868437227405312 < a % 9223372036854775808) := by simpa [nan] using h
  omega
theorem nan_of {a : Int} (h : a % 9223372036854775808 ≤ 9218868437227405312) : nan a = false := by
  unfold nan; exact decide_eq_false (by omega)
theorem plc_nn {a : Int} (h0 : 0 ≤ a) (h1 : a < 18446744073709551616) (h : nan a = false) : -9218868437227405312 ≤ plc a ∧ plc a ≤ 9218868437227405312 := by
  have := nan_no h
  unfold plc; split <;> omega
theorem inf_eq : parts_Inf.f false = some 9218868437227405312 := by decide +kernel
theorem rinf0 : vernierref06_Inf.f false = some 9218868437227405312 := by decide +kernel
theorem rinf1 : vernierref06_Inf.f true = some 18442240474082181120 := by decide +kernel
theorem Next_eq {k : Nat} {a : Int} (hk : 1 ≤ k) (h0 : 0 ≤ a) (h1 : a < 18446744073709551616) : fcmp_Next.f k a = some (nxt a) := by
  unfold fcmp_Next.f nxt
  rw [is_eq hk h0 h1, inf_eq, place_eq h0 h1]
  simp only [Option.bind_some]
  cases hn : nan a
  · have hb := plc_nn h0 h1 hn
    rw [ww (x := plc a + 1) (by omega) (by omega)]
    simp only [Bool.false_eq_true, if_false]
    by_cases c1 : a = 9218868437227405312
    · rw [if_pos c1, if_pos c1]
    · rw [if_neg c1, if_neg c1]
      by_cases c2 : plc a + 1 = 0
      · rw [if_pos c2, if_pos c2]
      · rw [if_neg c2, if_neg c2]
        unfold fcmp_of.f
        by_cases c3 : plc a + 1 < 0
        · rw [if_pos c3, if_pos c3, ww (by omega) (by omega), uw (by omega) (by omega), or_top (by omega) (by omega)]
          simp only [Option.bind_some]
          congr 1; omega
        · rw [if_neg c3, if_neg c3, uw (by omega) (by omega)]; rfl
  · rfl
theorem ng_range {a : Int} (h0 : 0 ≤ a) (h1 : a < 18446744073709551616) : 0 ≤ ng a ∧ ng a < 18446744073709551616 := by unfold ng; split <;> omega
theorem ng_plc {a : Int} (h0 : 0 ≤ a) (h1 : a < 18446744073709551616) (h : nan a = false) : nan (ng a) = false ∧ plc (ng a) = - plc a ∧ ng a = (a + 9223372036854775808) % 18446744073709551616 := by
  have hm := nan_no h
  have e : ng a = (a + 9223372036854775808) % 18446744073709551616 := by unfold ng; rw [if_neg (by simp [h])]
  refine ⟨nan_of (by omega), ?_, e⟩
  rw [e]; unfold plc; split <;> split <;> omega
theorem nxt_range {a : Int} (h0 : 0 ≤ a) (h1 : a < 18446744073709551616) : 0 ≤ nxt a ∧ nxt a < 18446744073709551616 := by
  have hb := plc_bd h0 h1
  unfold nxt
  repeat' split
  all_goals omega
theorem nxt_plc {a : Int} (h0 : 0 ≤ a) (h1 : a < 18446744073709551616) (h : nan a = false) (hi : a ≠ 9218868437227405312) : nan (nxt a) = false ∧ plc (nxt a) = plc a + 1 := by
  have hm := nan_no h
  have hb := plc_nn h0 h1 h
  have hb2 : plc a ≠ 9218868437227405312 := by unfold plc; split <;> omega
  unfold nxt
  rw [if_neg (by simp [h]), if_neg hi]
  split
  · exact ⟨nan_of (by omega), by rw [show plc 9223372036854775808 = 0 by decide]; omega⟩
  · split
    · refine ⟨nan_of (by omega), ?_⟩
      generalize plc a = p at *
      unfold plc; split <;> omega
    · refine ⟨nan_of (by omega), ?_⟩
      generalize plc a = p at *
      unfold plc; split <;> omega
def prv (a : Int) : Int := ng (nxt (ng a))
theorem Prev_eq {k : Nat} {a : Int} (hk : 1 ≤ k) (h0 : 0 ≤ a) (h1 : a < 18446744073709551616) : fcmp_Prev.f k a = some (prv a) := by
  unfold fcmp_Prev.f prv
  have r1 := ng_range h0 h1
  have r2 := nxt_range r1.1 r1.2
  rw [Neg_eq hk h0 h1]
  simp only [Option.bind_some]
  rw [Next_eq hk r1.1 r1.2]
  simp only [Option.bind_some]
  rw [Neg_eq hk r2.1 r2.2]
  rfl
theorem prv_range {a : Int} (h0 : 0 ≤ a) (h1 : a < 18446744073709551616) : 0 ≤ prv a ∧ prv a < 18446744073709551616 := by
  have r1 := ng_range h0 h1
  have r2 := nxt_range r1.1 r1.2
  exact ng_range r2.1 r2.2
theorem prv_plc {a : Int} (h0 : 0 ≤ a) (h1 : a < 18446744073709551616) (h : nan a = false) (hi : a ≠ 18442240474082181120) : nan (prv a) = false ∧ plc (prv a) = plc a - 1 := by
  have r1 := ng_range h0 h1
  have r2 := nxt_range r1.1 r1.2
  obtain ⟨n1, p1, e1⟩ := ng_plc h0 h1 h
  obtain ⟨n2, p2⟩ := nxt_plc r1.1 r1.2 n1 (by omega)
  obtain ⟨n3, p3, _⟩ := ng_plc r2.1 r2.2 n2
  exact ⟨n3, by unfold prv; omega⟩
theorem j3_ok {k : Nat} {a x : Int} (hk : 2 ≤ k) (h0 : 0 ≤ a) (h1 : a < 18446744073709551616) (h : nan a = false) (hx : x = nxt a) : vernierlaw12_FcmpNext.j3 k a x false = some true := by
  obtain ⟨k, rfl⟩ : ∃ j, k = j + 1 := ⟨k - 1, by omega⟩
  have rx := nxt_range h0 h1
  rw [← hx] at rx
  simp only [vernierlaw12_FcmpNext.j3]
  rw [Prev_eq (by omega) rx.1 rx.2, rinf0]
  simp only [Option.bind_some]
  rw [if_neg (by simp)]
  by_cases hi : a = 9218868437227405312
  · rw [if_pos hi]
  · rw [if_neg hi]
    obtain ⟨n1, p1⟩ := nxt_plc h0 h1 h hi
    rw [← hx] at n1 p1
    have hb := plc_nn h0 h1 h
    have hx2 : x ≠ 18442240474082181120 := by
      intro e; rw [e] at p1
      rw [show plc 18442240474082181120 = -9218868437227405312 by decide] at p1
      omega
    obtain ⟨n2, p2⟩ := prv_plc rx.1 rx.2 n1 hx2
    have rb := prv_range rx.1 rx.2
    revert n2 p2 rb
    generalize prv x = b
    intro n2 p2 rb
    by_cases e : b = a
    · rw [if_pos e]
    · rw [if_neg e]
      have hz : b % 9223372036854775808 = 0 ∧ a % 9223372036854775808 = 0 := by
        have : plc b = plc a := by omega
        unfold plc at this
        split at this <;> split at this <;> omega
      have w1 : ∀ z : Int, 0 ≤ z → z < 18446744073709551616 → z % 9223372036854775808 = 0 → IntKind.u64.wrap (z * 2) = 0 := by
        intro z z0 z1 hz
        have : z = 0 ∨ z = 9223372036854775808 := by omega
        rcases this with rfl | rfl <;> decide +kernel
      rw [if_pos (w1 b rb.1 rb.2 hz.1), w1 a h0 h1 hz.2]
      rfl
theorem j2_ok {k : Nat} {a x y : Int} (hk : 3 ≤ k) (h0 : 0 ≤ a) (h1 : a < 18446744073709551616) (h : nan a = false) (hx : x = nxt a) (hy : y = prv a) : vernierlaw12_FcmpNext.j2 k a x y false = some true := by
  obtain ⟨k, rfl⟩ : ∃ j, k = j + 1 := ⟨k - 1, by omega⟩
  simp only [vernierlaw12_FcmpNext.j2]
  rw [if_neg (by simp)]
  by_cases c : a = 9223372036854775809
  · rw [if_pos c, if_pos (by rw [hx, c]; decide +kernel), if_neg (by omega)]
    exact j3_ok (by omega) h0 h1 h hx
  · rw [if_neg c]
    by_cases c2 : a = 1
    · rw [if_pos c2]
      have : (y != 0) = false := by rw [hy, c2]; decide +kernel
      rw [this]; exact j3_ok (by omega) h0 h1 h hx
    · rw [if_neg c2]; exact j3_ok (by omega) h0 h1 h hx
theorem j1_ok {k : Nat} {a b x y : Int} (hk : 4 ≤ k) (h0 : 0 ≤ a) (h1 : a < 18446744073709551616) (b0 : 0 ≤ b) (b1 : b < 18446744073709551616) (h : nan a = false) (hx : x = nxt a) (hy : y = prv a) : vernierlaw12_FcmpNext.j1 k a b x y false = some true := by
  obtain ⟨k, rfl⟩ : ∃ j, k = j + 1 := ⟨k - 1, by omega⟩
  have ry := prv_range h0 h1
  rw [← hy] at ry
  simp only [vernierlaw12_FcmpNext.j1]
  rw [if_neg (by simp), rinf1]
  simp only [Option.bind_some]
  by_cases hi : a = 18442240474082181120
  · rw [if_pos hi]; exact j2_ok (by omega) h0 h1 h hx hy
  · rw [if_neg hi]
    obtain ⟨n1, p1⟩ := prv_plc h0 h1 h hi
    rw [← hy] at n1 p1
    rw [Less_eq (by omega) ry.1 ry.2 h0 h1, Less_eq (by omega) ry.1 ry.2 b0 b1, Less_eq (by omega) b0 b1 h0 h1, n1, h]
    simp only [Option.bind_some]
    rw [if_pos (by simp; omega)]
    split
    · rename_i c
      have : (!nan b && !false && decide (plc b < plc a)) = false := by
        have c' : nan b = false ∧ plc y < plc b := by simpa using c
        simp; intro; omega
      rw [this]; exact j2_ok (by omega) h0 h1 h hx hy
    · exact j2_ok (by omega) h0 h1 h hx hy
theorem j0_ok {k : Nat} {a b x y : Int} (hk : 5 ≤ k) (h0 : 0 ≤ a) (h1 : a < 18446744073709551616) (b0 : 0 ≤ b) (b1 : b < 18446744073709551616) (h : nan a = false) (hx : x = nxt a) (hy : y = prv a) : vernierlaw12_FcmpNext.j0 k a b x y false = some true := by
  obtain ⟨k, rfl⟩ : ∃ j, k = j + 1 := ⟨k - 1, by omega⟩
  have rx := nxt_range h0 h1
  rw [← hx] at rx
  simp only [vernierlaw12_FcmpNext.j0]
  rw [if_neg (by simp), rinf0]
  simp only [Option.bind_some]
  by_cases hi : a = 9218868437227405312
  · rw [if_pos hi]; exact j1_ok (by omega) h0 h1 b0 b1 h hx hy
  · rw [if_neg hi]
    obtain ⟨n1, p1⟩ := nxt_plc h0 h1 h hi
    rw [← hx] at n1 p1
    rw [Less_eq (by omega) h0 h1 rx.1 rx.2, Less_eq (by omega) h0 h1 b0 b1, Less_eq (by omega) b0 b1 rx.1 rx.2, n1, h]
    simp only [Option.bind_some]
    rw [if_pos (by simp; omega)]
    split
    · rename_i c
      have : (!nan b && !false && decide (plc b < plc x)) = false := by
        have c' : nan b = false ∧ plc a < plc b := by simpa using c
        simp; intro; omega
      rw [this]; exact j1_ok (by omega) h0 h1 b0 b1 h hx hy
    · exact j1_ok (by omega) h0 h1 b0 b1 h hx hy
theorem FcmpNext : vernierlaw12_FcmpNext.Pure := by
  intro a b ha hb
  obtain ⟨a0, a1⟩ := uwf ha
  obtain ⟨b0, b1⟩ := uwf hb
  refine ⟨6, ?_⟩
  unfold vernierlaw12_FcmpNext.f
  rw [alive_eq (by omega), Next_eq (by omega) a0 a1, Prev_eq (by omega) a0 a1, refClass_eq (by omega) a0 a1, rinf0, rinf1]
  simp only [Option.bind_some, if_true]
  cases h : nan a
  · rw [if_neg (by rw [cls3 a0 a1]; simpa [nan] using h)]
    by_cases c : a = 9218868437227405312
    · rw [if_pos c, if_pos (by rw [c]; decide +kernel), if_neg (by omega)]
      exact j0_ok (by omega) a0 a1 b0 b1 h rfl rfl
    · rw [if_neg c]
      by_cases c2 : a = 18442240474082181120
      · have : (prv a != a) = false := by rw [c2]; decide +kernel
        rw [if_pos c2, this]
        exact j0_ok (by omega) a0 a1 b0 b1 h rfl rfl
      · rw [if_neg c2]
        exact j0_ok (by omega) a0 a1 b0 b1 h rfl rfl
  · rw [if_pos (by rw [cls3 a0 a1]; simpa [nan] using h)]
    have e1 : nxt a = 9221120237041090560 := by unfold nxt; rw [if_pos h]
    have e2 : prv a = 9221120237041090560 := by
      unfold prv
      have : ng a = 9221120237041090560 := by unfold ng; rw [if_pos h]
      rw [this]; decide +kernel
    rw [e1, e2, if_pos rfl]
    rfl

end Go.Proofs.Ythmakmmfbdmdfaa.Pure
