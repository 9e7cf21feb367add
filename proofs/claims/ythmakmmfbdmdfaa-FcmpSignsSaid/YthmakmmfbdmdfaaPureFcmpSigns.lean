/- The plain law behind FcmpSigns: numbers without signs, with the other one, and the greatest of any; no conditions. -/
import Derived.Test.YthmakmmfbdmdfaaPFcmpSignsx2
import Derived.Test.YthmakmmfbdmdfaaWSized
set_option linter.unusedVariables false
set_option linter.unusedSimpArgs false
namespace Go.Proofs.Ythmakmmfbdmdfaa.PrintWords
/-- The word, under the name by which the printed row asks for it. -/
abbrev sized_ints := @Go.Proofs.YthmakmmfbdmdfaaW.PrintWords.sized_ints
end Go.Proofs.Ythmakmmfbdmdfaa.PrintWords
namespace Go.Proofs.Ythmakmmfbdmdfaa.Pure
open Go.RowKit Go.Proofs.Ythmakmmfbdmdfaa.PFcmpSigns Go.Proofs.YthmakmmfbdmdfaaW.PrintWords Go.Proofs.YthmakmmfbdmdfaaW.PrintLast Go.Proofs.YthmakmmfbdmdfaaW.PrintMore

namespace FcmpSignsL
theorem ww {x : Int} (h0 : -9223372036854775808 ≤ x) (h1 : x ≤ 9223372036854775807) : wrap64 x = x := by unfold wrap64; omega
theorem uw {x : Int} (h0 : 0 ≤ x) (h1 : x < 18446744073709551616) : IntKind.u64.wrap x = x := by
  simp only [IntKind.wrap, IntKind.bits, IntKind.signed]
  simp only [Bool.false_and]
  rw [if_neg (by simp)]
  omega
theorem uwf {x : Int} (h : (Lit.int .u64 x).wf = true) : 0 ≤ x ∧ x < 18446744073709551616 := by
  have : 0 ≤ x ∧ x ≤ 18446744073709551615 := by simpa [Lit.wf, IntKind.min, IntKind.max, IntKind.signed, IntKind.bits] using h
  omega
theorem uw' (n : Int) (h0 : 0 ≤ n) (h1 : n < 2 ^ 64) : IntKind.u64.wrap n = n := uw h0 (by simpa using h1)
theorem tmodn {a b : Int} (h : 0 ≤ a) : Int.tmod a b = a % b := Int.tmod_eq_emod_of_nonneg h
theorem tdivn {a b : Int} (h : 0 ≤ a) : Int.tdiv a b = a / b := Int.tdiv_eq_ediv_of_nonneg h
/-- the highest bit alone -/
theorem nand_top {a : Nat} (h : a < 2 ^ 64) : a &&& 2 ^ 63 = if a < 2 ^ 63 then 0 else 2 ^ 63 := by
  apply Nat.eq_of_testBit_eq
  intro i
  rw [Nat.testBit_and, Nat.testBit_two_pow]
  split
  · rename_i h2
    rw [Nat.zero_testBit]
    by_cases e : 63 = i
    · subst e; rw [Nat.testBit_lt_two_pow h2]; rfl
    · rw [decide_eq_false e]; simp
  · rename_i h2
    rw [Nat.testBit_two_pow]
    by_cases e : 63 = i
    · subst e
      obtain ⟨b, rfl⟩ : ∃ b, a = 2 ^ 63 + b := ⟨a - 2 ^ 63, by omega⟩
      rw [Nat.testBit_two_pow_add_eq, Nat.testBit_lt_two_pow (by omega)]; rfl
    · rw [decide_eq_false e]; simp
theorem nxor_top {a : Nat} (h : a < 2 ^ 64) : a ^^^ 2 ^ 63 = (a + 2 ^ 63) % 2 ^ 64 := by
  apply Nat.eq_of_testBit_eq
  intro i
  rw [Nat.testBit_xor, Nat.testBit_two_pow]
  by_cases h2 : a < 2 ^ 63
  · rw [Nat.mod_eq_of_lt (by omega), Nat.add_comm]
    by_cases e : 63 = i
    · subst e; rw [Nat.testBit_two_pow_add_eq, Nat.testBit_lt_two_pow h2]; rfl
    · rw [decide_eq_false e]
      by_cases e2 : i < 63
      · rw [Nat.testBit_two_pow_add_gt e2]; simp
      · rw [Nat.testBit_lt_two_pow (Nat.lt_of_lt_of_le h2 (Nat.pow_le_pow_right (by omega) (by omega))), Nat.testBit_lt_two_pow]; rfl
        exact Nat.lt_of_lt_of_le (show 2 ^ 63 + a < 2 ^ 64 by omega) (Nat.pow_le_pow_right (by omega) (by omega))
  · obtain ⟨b, rfl⟩ : ∃ b, a = 2 ^ 63 + b := ⟨a - 2 ^ 63, by omega⟩
    have hb : b < 2 ^ 63 := by omega
    rw [show (2 ^ 63 + b + 2 ^ 63) % 2 ^ 64 = b by omega]
    by_cases e : 63 = i
    · subst e; rw [Nat.testBit_two_pow_add_eq, Nat.testBit_lt_two_pow hb]; rfl
    · rw [decide_eq_false e]
      by_cases e2 : i < 63
      · rw [Nat.testBit_two_pow_add_gt e2]; simp
      · rw [Nat.testBit_lt_two_pow (Nat.lt_of_lt_of_le hb (Nat.pow_le_pow_right (by omega) (by omega))), Nat.testBit_lt_two_pow]; rfl
        exact Nat.lt_of_lt_of_le h (Nat.pow_le_pow_right (by omega) (by omega))
theorem u64_and {a b : Nat} (ha : a < 2 ^ 64) (hb : b < 2 ^ 64) : Go.bits .and .u64 a b = ((a &&& b : Nat) : Int) := (Go.bits_nat .u64 64 (by decide) uw' a b ha hb).1
theorem u64_or {a b : Nat} (ha : a < 2 ^ 64) (hb : b < 2 ^ 64) : Go.bits .or .u64 a b = ((a ||| b : Nat) : Int) := (Go.bits_nat .u64 64 (by decide) uw' a b ha hb).2
theorem u64_xor {a b : Nat} (ha : a < 2 ^ 64) (hb : b < 2 ^ 64) : Go.bits .xor .u64 a b = ((a ^^^ b : Nat) : Int) := by
  have ha' : a % 2 ^ 64 = a := Nat.mod_eq_of_lt ha
  have hb' : b % 2 ^ 64 = b := Nat.mod_eq_of_lt hb
  have hk : (IntKind.u64).bits = 64 := rfl
  simp only [Go.bits, BitVec.ofInt_natCast, BitVec.toNat_xor, BitVec.toNat_ofNat, hk, ha', hb']
  exact uw' _ (Int.natCast_nonneg _) (by exact_mod_cast Nat.xor_lt_two_pow ha hb)
theorem and_top {a : Int} (h0 : 0 ≤ a) (h1 : a < 18446744073709551616) : Go.bits .and .u64 a 9223372036854775808 = if a < 9223372036854775808 then 0 else 9223372036854775808 := by
  obtain ⟨n, rfl⟩ := Int.eq_ofNat_of_zero_le h0
  have := u64_and (a := n) (b := 2 ^ 63) (by omega) (by omega)
  rw [show ((2 ^ 63 : Nat) : Int) = 9223372036854775808 from by rfl] at this
  rw [this, nand_top (by omega)]
  split
  · rw [if_pos (by omega)]; rfl
  · rw [if_neg (by omega)]; rfl
theorem xor_top {a : Int} (h0 : 0 ≤ a) (h1 : a < 18446744073709551616) : Go.bits .xor .u64 a 9223372036854775808 = (a + 9223372036854775808) % 18446744073709551616 := by
  obtain ⟨n, rfl⟩ := Int.eq_ofNat_of_zero_le h0
  have := u64_xor (a := n) (b := 2 ^ 63) (by omega) (by omega)
  rw [show ((2 ^ 63 : Nat) : Int) = 9223372036854775808 from by rfl] at this
  rw [this, nxor_top (by omega)]
  omega
theorem or_top {a : Int} (h0 : 0 ≤ a) (h1 : a < 9223372036854775808) : Go.bits .or .u64 a 9223372036854775808 = a + 9223372036854775808 := by
  obtain ⟨n, rfl⟩ := Int.eq_ofNat_of_zero_le h0
  have := u64_or (a := n) (b := 2 ^ 63) (by omega) (by omega)
  rw [show ((2 ^ 63 : Nat) : Int) = 9223372036854775808 from by rfl] at this
  have e := Nat.two_pow_add_eq_or_of_lt (i := 63) (b := n) (by omega) 1
  rw [Nat.mul_one] at e
  rw [this, Nat.or_comm, ← e]
  omega
theorem andNot_top {a : Int} (h0 : 0 ≤ a) (h1 : a < 18446744073709551616) : Go.bits .andNot .u64 a 9223372036854775808 = a % 9223372036854775808 := by
  obtain ⟨n, rfl⟩ := Int.eq_ofNat_of_zero_le h0
  have e1 : ~~~(BitVec.ofInt 64 9223372036854775808) = BitVec.ofNat 64 (2 ^ 63 - 1) := by decide
  show IntKind.u64.wrap ((((BitVec.ofInt 64 (n : Int)) &&& ~~~(BitVec.ofInt 64 9223372036854775808)).toNat : Nat) : Int) = _
  rw [e1, BitVec.ofInt_natCast, BitVec.toNat_and, BitVec.toNat_ofNat, BitVec.toNat_ofNat]
  rw [Nat.mod_eq_of_lt (show n < 2 ^ 64 by omega), Nat.mod_eq_of_lt (show 2 ^ 63 - 1 < 2 ^ 64 by omega), Nat.and_two_pow_sub_one_eq_mod]
  rw [uw (by omega) (by omega)]
  omega
theorem and_mask (i : Nat) (hi : i ≤ 64) {a m : Int} (h0 : 0 ≤ a) (h1 : a < 18446744073709551616) (hm : m = 2 ^ i - 1) : Go.bits .and .u64 a m = a % 2 ^ i := by
  rw [hm]; exact Go.bits_mask .u64 64 (by decide) uw' i hi a h0 (by simpa using h1)
/-- what a number is -/
def cls (a : Int) : Int := if a / 4503599627370496 % 2048 = 2047 then (if a % 4503599627370496 = 0 then 2 else 3) else if a / 4503599627370496 % 2048 = 0 ∧ a % 4503599627370496 = 0 then 0 else 1
theorem Class_eq {k : Nat} {a : Int} (hk : 1 ≤ k) (h0 : 0 ≤ a) (h1 : a < 18446744073709551616) : parts_Class.f k a = some (cls a) := by
  obtain ⟨k, rfl⟩ : ∃ j, k = j + 1 := ⟨k - 1, by omega⟩
  have e1 : Go.bits .and .u64 (a / 4503599627370496) 2047 = a / 4503599627370496 % 2048 := and_mask 11 (by omega) (by omega) (by omega) (by decide)
  have e2 : Go.bits .and .u64 a 4503599627370495 = a % 4503599627370496 := and_mask 52 (by omega) (by omega) (by omega) (by decide)
  unfold parts_Class.f
  rw [e1, e2]
  simp only [parts_Class.j0, cls]
  by_cases c1 : a / 4503599627370496 % 2048 = 2047
  · rw [if_pos c1, if_pos c1]
    by_cases c2 : a % 4503599627370496 = 0
    · rw [if_pos c2, if_neg (by simp [c2]), if_pos c1]
    · rw [if_neg c2, if_pos (by simpa using c2), if_pos c1]
  · rw [if_neg c1, if_neg c1, if_neg (by simp), if_neg c1]
    by_cases c2 : a / 4503599627370496 % 2048 = 0
    · rw [if_pos c2]
      by_cases c3 : a % 4503599627370496 = 0
      · rw [if_pos c3, if_pos ⟨c2, c3⟩]
      · rw [if_neg c3, if_neg (fun h => c3 h.2)]
    · rw [if_neg c2, if_neg (fun h => c2 h.1)]
theorem refClass_eq {k : Nat} {a : Int} (hk : 1 ≤ k) (h0 : 0 ≤ a) (h1 : a < 18446744073709551616) : vernierref06_Class.f k a = some (cls a) := by
  obtain ⟨k, rfl⟩ : ∃ j, k = j + 1 := ⟨k - 1, by omega⟩
  unfold vernierref06_Class.f
  rw [tdivn h0, uw (x := a / 4503599627370496) (by omega) (by omega), tmodn (a := a / 4503599627370496) (by omega), tmodn h0]
  simp only [vernierref06_Class.j0, cls]
  by_cases c1 : a / 4503599627370496 % 2048 = 2047
  · rw [if_pos c1, if_pos c1]
    by_cases c2 : a % 4503599627370496 = 0
    · rw [if_pos c2, if_neg (by simp; omega), if_pos c1]
    · rw [if_neg c2, if_pos (by simp; omega), if_pos c1]
  · rw [if_neg c1, if_neg c1, if_neg (by simp), if_neg c1]
    by_cases c2 : a / 4503599627370496 % 2048 = 0
    · rw [if_pos c2]
      by_cases c3 : a % 4503599627370496 = 0
      · rw [if_pos c3, if_pos ⟨c2, c3⟩]
      · rw [if_neg c3, if_neg (fun h => c3 h.2)]
    · rw [if_neg c2, if_neg (fun h => c2 h.1)]
theorem cls3 {a : Int} (h0 : 0 ≤ a) (h1 : a < 18446744073709551616) : cls a = 3 ↔ 9218868437227405312 < a % 9223372036854775808 := by
  unfold cls
  split
  · split <;> omega
  · split <;> omega
theorem cls2 {a : Int} (h0 : 0 ≤ a) (h1 : a < 18446744073709551616) : cls a = 2 ↔ 9218868437227405312 = a % 9223372036854775808 := by
  unfold cls
  split
  · split <;> omega
  · split <;> omega
/-- is it none? -/
def nan (a : Int) : Bool := decide (9218868437227405312 < a % 9223372036854775808)
theorem is_eq {k : Nat} {a : Int} (hk : 1 ≤ k) (h0 : 0 ≤ a) (h1 : a < 18446744073709551616) : fcmp_is.f k a = some (nan a) := by
  unfold fcmp_is.f nan
  rw [Class_eq hk h0 h1]
  simp only [Option.bind_some]
  congr 1
  rw [Bool.eq_iff_iff]; simp [cls3 h0 h1]
/-- a number's place -/
def plc (a : Int) : Int := if a < 9223372036854775808 then a else 9223372036854775808 - a
theorem place_eq {a : Int} (h0 : 0 ≤ a) (h1 : a < 18446744073709551616) : fcmp_place.f a = some (plc a) := by
  unfold fcmp_place.f plc
  rw [and_top h0 h1, andNot_top h0 h1]
  by_cases h : a < 9223372036854775808
  · rw [if_pos h, if_pos h, if_pos rfl, ww (by omega) (by omega)]
  · rw [if_neg h, if_neg h, if_neg (by omega), ww (x := a % 9223372036854775808) (by omega) (by omega), ww (by omega) (by omega)]
    congr 1; omega
def sgn (x y : Int) : Int := if x < y then -1 else if x > y then 1 else 0
theorem Cmp_eq {k : Nat} {a b : Int} (hk : 1 ≤ k) (ha0 : 0 ≤ a) (ha1 : a < 18446744073709551616) (hb0 : 0 ≤ b) (hb1 : b < 18446744073709551616) :
    fcmp_Cmp.f k a b = some (if nan a || nan b then (0, false) else (sgn (plc a) (plc b), true)) := by
  obtain ⟨k, rfl⟩ : ∃ j, k = j + 1 := ⟨k - 1, by omega⟩
  unfold fcmp_Cmp.f
  rw [place_eq ha0 ha1, place_eq hb0 hb1, is_eq (by omega) ha0 ha1, is_eq (by omega) hb0 hb1]
  simp only [Option.bind_some, fcmp_Cmp.j0]
  cases nan a <;> cases nan b <;> simp [sgn]
  repeat' split
  all_goals first | rfl | omega
theorem Less_eq {k : Nat} {a b : Int} (hk : 1 ≤ k) (ha0 : 0 ≤ a) (ha1 : a < 18446744073709551616) (hb0 : 0 ≤ b) (hb1 : b < 18446744073709551616) :
    fcmp_Less.f k a b = some (!nan a && !nan b && decide (plc a < plc b)) := by
  unfold fcmp_Less.f
  rw [Cmp_eq hk ha0 ha1 hb0 hb1]
  simp only [Option.bind_some]
  cases nan a <;> cases nan b <;> simp [sgn]
  repeat' split
  all_goals first | rfl | omega | (simp; omega)
theorem alive_eq {k : Nat} (hk : 1 ≤ k) : vernierlaw12_alive.f k = some true := by
  unfold vernierlaw12_alive.f
  rw [Cmp_eq hk (by omega) (by omega) (by omega) (by omega), Less_eq hk (by omega) (by omega) (by omega) (by omega)]
  decide +kernel
end FcmpSignsL
open FcmpSignsL

theorem Abs_eq {k : Nat} {a : Int} (hk : 1 ≤ k) (h0 : 0 ≤ a) (h1 : a < 18446744073709551616) : fcmp_Abs.f k a = some (if nan a then 9221120237041090560 else a % 9223372036854775808) := by
  unfold fcmp_Abs.f
  rw [is_eq hk h0 h1, andNot_top h0 h1]
  simp only [Option.bind_some]
  cases nan a <;> rfl
theorem Neg_eq {k : Nat} {a : Int} (hk : 1 ≤ k) (h0 : 0 ≤ a) (h1 : a < 18446744073709551616) : fcmp_Neg.f k a = some (if nan a then 9221120237041090560 else (a + 9223372036854775808) % 18446744073709551616) := by
  unfold fcmp_Neg.f
  rw [is_eq hk h0 h1, xor_top h0 h1]
  simp only [Option.bind_some]
  cases nan a <;> rfl
/-- the greatest of what is left -/
def most : Int → List Int → Int
  | b, [] => b
  | b, x :: l => if nan x then 9221120237041090560 else most (mx b (x % 9223372036854775808)) l
theorem rd_drop {l : List Int} {i : Nat} (h : i < l.length) : l.drop i = rd l i :: l.drop (i + 1) := by
  rw [List.drop_eq_getElem_cons h]; congr 1
  simp [rd, List.getD_eq_getElem?_getD, h]
theorem Max_eq (l : List Int) (hl : l.length ≤ 140737488351232) (hw : ∀ x ∈ l, 0 ≤ x ∧ x < 18446744073709551616) : ∀ (d k i : Nat) (b : Int), d < k → i + d = l.length →
    fcmp_Max.l0 k b l l.length i = some (most b (l.drop i)) := by
  intro d
  induction d with
  | zero =>
    intro k i b hk hi
    obtain ⟨k, rfl⟩ : ∃ j, k = j + 1 := ⟨k - 1, by omega⟩
    simp only [fcmp_Max.l0]
    rw [if_neg (by omega), List.drop_eq_nil_of_le (by omega)]; rfl
  | succ d ih =>
    intro k i b hk hi
    obtain ⟨k, rfl⟩ : ∃ j, k = j + 1 := ⟨k - 1, by omega⟩
    have hx := hw (rd l i) (by
      have : l.drop i = rd l i :: l.drop (i + 1) := rd_drop (by omega)
      exact List.mem_of_mem_drop (i := i) (by rw [this]; simp))
    simp only [fcmp_Max.l0]
    rw [if_pos (by omega), if_pos (by omega), if_pos (by omega), is_eq (by omega) hx.1 hx.2, andNot_top hx.1 hx.2, rd_drop (show i < l.length by omega)]
    simp only [Option.bind_some, most]
    cases nan (rd l i)
    · rw [if_neg (by simp), if_neg (by simp), ww (by omega) (by omega)]
      exact ih k (i + 1) _ (by omega) (by omega)
    · rfl
/-- as the law has it -/
def best : Int → List Int → Int
  | b, [] => b
  | b, x :: l => best (if nan x then 9221120237041090560 else if b = 9221120237041090560 then 9221120237041090560 else mx b (x % 9223372036854775808)) l
theorem best_nan (l : List Int) : best 9221120237041090560 l = 9221120237041090560 := by
  induction l with
  | nil => rfl
  | cons x l ih => simp only [best, if_true]; split <;> exact ih
theorem best_eq (l : List Int) : ∀ b : Int, b ≤ 9218868437227405312 → best b l = most b l := by
  induction l with
  | nil => intro b _; rfl
  | cons x l ih =>
    intro b hb
    simp only [best, most]
    cases hn : nan x
    · rw [if_neg (by simp), if_neg (by omega), if_neg (by simp)]
      refine ih _ ?_
      have : ¬ (9218868437227405312 < x % 9223372036854775808) := by simpa [nan] using hn
      unfold mx; split <;> omega
    · rw [if_pos rfl, if_pos rfl]; exact best_nan l
theorem loop_eq (a x y : Int) (ha0 : 0 ≤ a) (ha1 : a < 18446744073709551616) (l : List Int) (hl : l.length ≤ 140737488351232) (hw : ∀ x ∈ l, 0 ≤ x ∧ x < 18446744073709551616)
    (hx : x = if nan a then 9221120237041090560 else a % 9223372036854775808) (hy : y = if nan a then 9221120237041090560 else (a + 9223372036854775808) % 18446744073709551616) :
    ∀ (d k i : Nat) (b : Int), d + l.length + 1 < k → i + d = l.length → best b (l.drop i) = most 0 l →
    vernierlaw12_FcmpSigns.l0 k a l x y b i = some true := by
  intro d
  induction d with
  | zero =>
    intro k i b hk hi hb
    obtain ⟨k, rfl⟩ : ∃ j, k = j + 1 := ⟨k - 1, by omega⟩
    simp only [vernierlaw12_FcmpSigns.l0]
    rw [if_neg (by omega), Abs_eq (by omega) ha0 ha1, Neg_eq (by omega) ha0 ha1, ← hx, ← hy]
    rw [List.drop_eq_nil_of_le (by omega)] at hb
    have hm := Max_eq l hl hw l.length k 0 0 (by omega) (by omega)
    simp only [Option.bind_some, if_true]
    rw [show fcmp_Max.f k l = some (most 0 l) from hm, alive_eq (by omega)]
    simp only [Option.bind_some]
    rw [if_pos (by rw [← hb]; rfl)]
  | succ d ih =>
    intro k i b hk hi hb
    obtain ⟨k, rfl⟩ : ∃ j, k = j + 1 := ⟨k - 1, by omega⟩
    have hz := hw (rd l i) (by
      have : l.drop i = rd l i :: l.drop (i + 1) := rd_drop (by omega)
      exact List.mem_of_mem_drop (i := i) (by rw [this]; simp))
    rw [rd_drop (show i < l.length by omega)] at hb
    simp only [best] at hb
    simp only [vernierlaw12_FcmpSigns.l0]
    rw [if_pos (by omega), if_pos (by omega), refClass_eq (by omega) hz.1 hz.2, andNot_top hz.1 hz.2, ww (by omega) (by omega)]
    simp only [Option.bind_some]
    by_cases hn : nan (rd l i) = true
    · rw [if_pos (by rw [cls3 hz.1 hz.2]; simpa [nan] using hn)]
      rw [if_pos hn] at hb
      exact ih k (i + 1) _ (by omega) (by omega) hb
    · rw [if_neg (by rw [cls3 hz.1 hz.2]; simpa [nan] using hn)]
      rw [if_neg hn] at hb
      split
      · rename_i e; rw [if_pos e] at hb; exact ih k (i + 1) _ (by omega) (by omega) hb
      · rename_i e; rw [if_neg e] at hb; exact ih k (i + 1) _ (by omega) (by omega) hb
theorem FcmpSigns : vernierlaw12_FcmpSigns.Pure := by
  intro a l ha hl hl8 hw
  obtain ⟨a0, a1⟩ := uwf ha
  have hw' : ∀ x ∈ l, 0 ≤ x ∧ x < 18446744073709551616 := fun x hx => uwf (hw x hx)
  refine ⟨2 * l.length + 4, ?_⟩
  unfold vernierlaw12_FcmpSigns.f
  rw [refClass_eq (by omega) a0 a1, andNot_top a0 a1, xor_top a0 a1]
  simp only [Option.bind_some]
  have hb := best_eq l 0 (by omega)
  by_cases hn : nan a = true
  · rw [if_pos (by rw [cls3 a0 a1]; simpa [nan] using hn)]
    simp only [vernierlaw12_FcmpSigns.j0]
    exact loop_eq a _ _ a0 a1 l (by omega) hw' (by rw [if_pos hn]) (by rw [if_pos hn]) l.length _ 0 0 (by omega) (by omega) (by simpa using hb)
  · rw [if_neg (by rw [cls3 a0 a1]; simpa [nan] using hn)]
    simp only [vernierlaw12_FcmpSigns.j0]
    exact loop_eq a _ _ a0 a1 l (by omega) hw' (by rw [if_neg hn]) (by rw [if_neg hn]) l.length _ 0 0 (by omega) (by omega) (by simpa using hb)

end Go.Proofs.Ythmakmmfbdmdfaa.Pure
