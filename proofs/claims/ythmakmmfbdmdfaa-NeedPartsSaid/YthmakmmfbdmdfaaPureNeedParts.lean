/- The plain law behind NeedParts: what a factorization takes is at most what one product of its sides takes; no conditions. -/
import Derived.Test.YthmakmmfbdmdfaaPNeedPartsx2
namespace Go.Proofs.Ythmakmmfbdmdfaa.Pure
open Go.RowKit Go.Proofs.Ythmakmmfbdmdfaa.PNeedParts Go.Proofs.YthmakmmfbdmdfaaW.PrintWords Go.Proofs.YthmakmmfbdmdfaaW.PrintLast Go.Proofs.YthmakmmfbdmdfaaW.PrintMore

namespace NeedPartsL
theorem ww {x : Int} (h0 : -9223372036854775808 ≤ x) (h1 : x ≤ 9223372036854775807) : wrap64 x = x := by unfold wrap64; omega
theorem mul_bd {a b A B : Int} (ha : 0 ≤ a) (hA : a ≤ A) (hb : 0 ≤ b) (hB : b ≤ B) : 0 ≤ a * b ∧ a * b ≤ A * B :=
  ⟨Int.mul_nonneg ha hb, Int.mul_le_mul hA hB hb (by omega)⟩
theorem even_all : ∀ n : Fin 65, Go.bits .andNot .i64 (n.val : Int) 1 = 2 * ((n.val : Int) / 2) := by decide +kernel
theorem even_bits {a : Int} (h0 : 0 ≤ a) (h1 : a ≤ 64) : Go.bits .andNot .i64 a 1 = 2 * (a / 2) := by
  have := even_all ⟨a.toNat, by omega⟩
  have e : ((a.toNat : Nat) : Int) = a := by omega
  simpa only [e] using this
theorem tmod2 {a b : Int} (h : 0 ≤ a) : Int.tmod a b = a % b := Int.tmod_eq_emod_of_nonneg h
theorem tdiv2 {a b : Int} (h : 0 ≤ a) : Int.tdiv a b = a / b := Int.tdiv_eq_ediv_of_nonneg h
theorem fast_eq (m q n c : Int) : winograd_Fast.f m q n c = some (decide (c < m ∧ c < q ∧ c < n)) := by
  unfold winograd_Fast.f mn
  congr 1
  by_cases h : c < m ∧ c < q ∧ c < n
  · rw [decide_eq_true h]; apply decide_eq_true; split <;> (try split) <;> omega
  · rw [decide_eq_false h]; apply decide_eq_false; split <;> (try split) <;> omega
/-- what is beside the even part -/
def edg (m q n : Int) : Int := q % 2 * (2 * (m / 2)) * (2 * (n / 2)) + n % 2 * (2 * (m / 2)) * q + m % 2 * q * n
theorem edg_bd {m q n : Int} (hm0 : 0 ≤ m) (hm : m ≤ 64) (hq0 : 0 ≤ q) (hq : q ≤ 64) (hn0 : 0 ≤ n) (hn : n ≤ 64) : 0 ≤ edg m q n ∧ edg m q n ≤ 12288 := by
  unfold edg
  have a1 := mul_bd (a := q % 2) (b := 2 * (m / 2)) (A := 1) (B := 64) (by omega) (by omega) (by omega) (by omega)
  have a2 := mul_bd (a := q % 2 * (2 * (m / 2))) (b := 2 * (n / 2)) (A := 64) (B := 64) (by omega) (by omega) (by omega) (by omega)
  have b1 := mul_bd (a := n % 2) (b := 2 * (m / 2)) (A := 1) (B := 64) (by omega) (by omega) (by omega) (by omega)
  have b2 := mul_bd (a := n % 2 * (2 * (m / 2))) (b := q) (A := 64) (B := 64) (by omega) (by omega) (by omega) (by omega)
  have c1 := mul_bd (a := m % 2) (b := q) (A := 1) (B := 64) (by omega) (by omega) (by omega) (by omega)
  have c2 := mul_bd (a := m % 2 * q) (b := n) (A := 64) (B := 64) (by omega) (by omega) (by omega) (by omega)
  omega
theorem edges_eq {m q n : Int} (hm0 : 0 ≤ m) (hm : m ≤ 64) (hq0 : 0 ≤ q) (hq : q ≤ 64) (hn0 : 0 ≤ n) (hn : n ≤ 64) : need_edges.f m q n = some (edg m q n) := by
  unfold need_edges.f
  rw [even_bits hm0 hm, even_bits hn0 hn, tmod2 hq0, tmod2 hn0, tmod2 hm0]
  have a1 := mul_bd (a := q % 2) (b := 2 * (m / 2)) (A := 1) (B := 64) (by omega) (by omega) (by omega) (by omega)
  have a2 := mul_bd (a := q % 2 * (2 * (m / 2))) (b := 2 * (n / 2)) (A := 64) (B := 64) (by omega) (by omega) (by omega) (by omega)
  have b1 := mul_bd (a := n % 2) (b := 2 * (m / 2)) (A := 1) (B := 64) (by omega) (by omega) (by omega) (by omega)
  have b2 := mul_bd (a := n % 2 * (2 * (m / 2))) (b := q) (A := 64) (B := 64) (by omega) (by omega) (by omega) (by omega)
  have c1 := mul_bd (a := m % 2) (b := q) (A := 1) (B := 64) (by omega) (by omega) (by omega) (by omega)
  have c2 := mul_bd (a := m % 2 * q) (b := n) (A := 64) (B := 64) (by omega) (by omega) (by omega) (by omega)
  rw [ww (x := q % 2 * (2 * (m / 2))) (by omega) (by omega), ww (x := q % 2 * (2 * (m / 2)) * (2 * (n / 2))) (by omega) (by omega), ww (x := n % 2 * (2 * (m / 2))) (by omega) (by omega), ww (x := n % 2 * (2 * (m / 2)) * q) (by omega) (by omega), ww (x := m % 2 * q) (by omega) (by omega), ww (x := m % 2 * q * n) (by omega) (by omega)]
  rw [ww (x := q % 2 * (2 * (m / 2)) * (2 * (n / 2)) + n % 2 * (2 * (m / 2)) * q) (by omega) (by omega), ww (by omega) (by omega)]
  rfl
theorem prod_split (p q r a b c : Int) : (2 * p + a) * (2 * q + b) * (2 * r + c) = 8 * (p * q * r) + (b * (2 * p) * (2 * r) + c * (2 * p) * (2 * q + b) + a * (2 * q + b) * (2 * r + c)) := by grind
theorem edg_eq (m q n : Int) : m * q * n = 8 * (m / 2 * (q / 2) * (n / 2)) + edg m q n := by
  have := prod_split (m / 2) (q / 2) (n / 2) (m % 2) (q % 2) (n % 2)
  rw [show 2 * (m / 2) + m % 2 = m by omega, show 2 * (q / 2) + q % 2 = q by omega, show 2 * (n / 2) + n % 2 = n by omega] at this
  unfold edg; exact this
/-- multiplications, plainly -/
def mulN : Nat → Int → Int → Int → Int → Int
  | 0, m, q, n, _ => m * q * n
  | d + 1, m, q, n, c => if c < m ∧ c < q ∧ c < n then 7 * mulN d (m / 2) (q / 2) (n / 2) c + edg m q n else m * q * n
theorem mulN_bd : ∀ (d : Nat) (m q n c : Int), 0 ≤ m → m ≤ 64 → 0 ≤ q → q ≤ 64 → 0 ≤ n → n ≤ 64 → 0 ≤ mulN d m q n c ∧ mulN d m q n c ≤ m * q * n := by
  intro d
  induction d with
  | zero =>
    intro m q n c hm0 hm hq0 hq hn0 hn
    unfold mulN
    have a1 := mul_bd (a := m) (b := q) (A := 64) (B := 64) (by omega) (by omega) (by omega) (by omega)
    have a2 := mul_bd (a := m * q) (b := n) (A := 4096) (B := 64) (by omega) (by omega) (by omega) (by omega)
    omega
  | succ d ih =>
    intro m q n c hm0 hm hq0 hq hn0 hn
    unfold mulN
    have a1 := mul_bd (a := m) (b := q) (A := 64) (B := 64) (by omega) (by omega) (by omega) (by omega)
    have a2 := mul_bd (a := m * q) (b := n) (A := 4096) (B := 64) (by omega) (by omega) (by omega) (by omega)
    split
    · have h := ih (m / 2) (q / 2) (n / 2) c (by omega) (by omega) (by omega) (by omega) (by omega) (by omega)
      have e := edg_eq m q n
      have eb := edg_bd hm0 hm hq0 hq hn0 hn
      omega
    · omega
theorem muls_eq : ∀ (d k : Nat) (m q n c : Int), d < k → 0 ≤ m → m ≤ 64 → m < 2 ^ d → 0 ≤ q → q ≤ 64 → 0 ≤ n → n ≤ 64 → 1 ≤ c →
    need_muls.f k m q n c = some (mulN d m q n c) := by
  intro d
  induction d with
  | zero =>
    intro k m q n c hk hm0 hm hd hq0 hq hn0 hn hc
    obtain ⟨k, rfl⟩ : ∃ j, k = j + 1 := ⟨k - 1, by omega⟩
    have hm1 : m = 0 := by simp at hd; omega
    subst hm1
    simp only [need_muls.f, fast_eq, mulN]
    simp only [Option.bind_some]
    rw [if_neg (by simp; omega)]
    simp [wrap64]
  | succ d ih =>
    intro k m q n c hk hm0 hm hd hq0 hq hn0 hn hc
    obtain ⟨k, rfl⟩ : ∃ j, k = j + 1 := ⟨k - 1, by omega⟩
    have hd2 : m / 2 < 2 ^ d := by rw [Int.pow_succ] at hd; omega
    simp only [need_muls.f, fast_eq, mulN]
    simp only [Option.bind_some]
    have a1 := mul_bd (a := m) (b := q) (A := 64) (B := 64) (by omega) (by omega) (by omega) (by omega)
    have a2 := mul_bd (a := m * q) (b := n) (A := 4096) (B := 64) (by omega) (by omega) (by omega) (by omega)
    by_cases h : c < m ∧ c < q ∧ c < n
    · rw [if_pos (by simpa using h), if_pos h]
      rw [tdiv2 hm0, tdiv2 hq0, tdiv2 hn0, ww (x := m / 2) (by omega) (by omega), ww (x := q / 2) (by omega) (by omega), ww (x := n / 2) (by omega) (by omega)]
      rw [ih k (m / 2) (q / 2) (n / 2) c (by omega) (by omega) (by omega) hd2 (by omega) (by omega) (by omega) (by omega) hc, edges_eq hm0 hm hq0 hq hn0 hn]
      simp only [Option.bind_some]
      have hb := mulN_bd d (m / 2) (q / 2) (n / 2) c (by omega) (by omega) (by omega) (by omega) (by omega) (by omega)
      have e := edg_eq m q n
      have eb := edg_bd hm0 hm hq0 hq hn0 hn
      rw [ww (x := 7 * mulN d (m / 2) (q / 2) (n / 2) c) (by omega) (by omega), ww (by omega) (by omega)]
    · rw [if_neg (by simpa using h), if_neg h]
      rw [ww (x := m * q) (by omega) (by omega), ww (by omega) (by omega)]
/-- what is lent, plainly -/
def lend (m q n : Int) : Int := m / 2 * (q / 2) + q / 2 * (n / 2) + 2 * (m / 2) * (n / 2)
def needN : Nat → Int → Int → Int → Int → Int
  | 0, _, _, _, _ => 0
  | d + 1, m, q, n, c => if c < m ∧ c < q ∧ c < n then lend m q n + needN d (m / 2) (q / 2) (n / 2) c else 0
def cube (m q n : Int) : Int := m * q + q * n + 2 * m * n
theorem four_mul {a b : Int} (ha : 0 ≤ a) (hb : 0 ≤ b) : 4 * (a / 2 * (b / 2)) ≤ a * b := by
  have := mul_bd (a := 2 * (a / 2)) (b := 2 * (b / 2)) (A := a) (B := b) (by omega) (by omega) (by omega) (by omega)
  have e : 2 * (a / 2) * (2 * (b / 2)) = 4 * (a / 2 * (b / 2)) := by grind
  omega
theorem lend_bd {m q n : Int} (hm0 : 0 ≤ m) (hq0 : 0 ≤ q) (hn0 : 0 ≤ n) : 0 ≤ lend m q n ∧ 4 * lend m q n ≤ cube m q n := by
  unfold lend cube
  have a := four_mul hm0 hq0
  have b := four_mul hq0 hn0
  have c := four_mul hm0 hn0
  have a' : 0 ≤ m / 2 * (q / 2) := Int.mul_nonneg (by omega) (by omega)
  have b' : 0 ≤ q / 2 * (n / 2) := Int.mul_nonneg (by omega) (by omega)
  have c' : 0 ≤ m / 2 * (n / 2) := Int.mul_nonneg (by omega) (by omega)
  rw [Int.mul_assoc 2 (m / 2), Int.mul_assoc 2 m]
  omega
theorem cube_half {m q n : Int} : cube (m / 2) (q / 2) (n / 2) = lend m q n := rfl
theorem needN_bd : ∀ (d : Nat) (m q n c : Int), 0 ≤ m → 0 ≤ q → 0 ≤ n → 0 ≤ needN d m q n c ∧ 3 * needN d m q n c ≤ cube m q n := by
  intro d
  induction d with
  | zero =>
    intro m q n c hm0 hq0 hn0
    have := lend_bd hm0 hq0 hn0
    unfold needN; omega
  | succ d ih =>
    intro m q n c hm0 hq0 hn0
    have h := lend_bd hm0 hq0 hn0
    unfold needN
    split
    · have h2 := ih (m / 2) (q / 2) (n / 2) c (by omega) (by omega) (by omega)
      rw [cube_half] at h2
      omega
    · omega
theorem cube_bd {m q n : Int} (hm0 : 0 ≤ m) (hm : m ≤ 64) (hq0 : 0 ≤ q) (hq : q ≤ 64) (hn0 : 0 ≤ n) (hn : n ≤ 64) : 0 ≤ cube m q n ∧ cube m q n ≤ 16384 := by
  unfold cube
  have a := mul_bd (a := m) (b := q) (A := 64) (B := 64) hm0 hm hq0 hq
  have b := mul_bd (a := q) (b := n) (A := 64) (B := 64) hq0 hq hn0 hn
  have c := mul_bd (a := m) (b := n) (A := 64) (B := 64) hm0 hm hn0 hn
  rw [Int.mul_assoc 2 m]
  omega
theorem need_eq : ∀ (d k : Nat) (m q n c : Int), d < k → 0 ≤ m → m ≤ 64 → m < 2 ^ d → 0 ≤ q → q ≤ 64 → 0 ≤ n → n ≤ 64 → 1 ≤ c →
    winograd_need.f k m q n c = some (needN d m q n c) := by
  intro d
  induction d with
  | zero =>
    intro k m q n c hk hm0 hm hd hq0 hq hn0 hn hc
    obtain ⟨k, rfl⟩ : ∃ j, k = j + 1 := ⟨k - 1, by omega⟩
    have hm1 : m = 0 := by simp at hd; omega
    subst hm1
    simp only [winograd_need.f, fast_eq, needN]
    simp only [Option.bind_some]
    rw [if_neg (by simp; omega)]
  | succ d ih =>
    intro k m q n c hk hm0 hm hd hq0 hq hn0 hn hc
    obtain ⟨k, rfl⟩ : ∃ j, k = j + 1 := ⟨k - 1, by omega⟩
    have hd2 : m / 2 < 2 ^ d := by rw [Int.pow_succ] at hd; omega
    simp only [winograd_need.f, fast_eq, needN]
    simp only [Option.bind_some]
    by_cases h : c < m ∧ c < q ∧ c < n
    · rw [if_pos (by simpa using h), if_pos h]
      rw [tdiv2 hm0, tdiv2 hq0, tdiv2 hn0, ww (x := m / 2) (by omega) (by omega), ww (x := q / 2) (by omega) (by omega), ww (x := n / 2) (by omega) (by omega)]
      rw [ih k (m / 2) (q / 2) (n / 2) c (by omega) (by omega) (by omega) hd2 (by omega) (by omega) (by omega) (by omega) hc]
      simp only [Option.bind_some]
      have a := mul_bd (a := m / 2) (b := q / 2) (A := 32) (B := 32) (by omega) (by omega) (by omega) (by omega)
      have b := mul_bd (a := q / 2) (b := n / 2) (A := 32) (B := 32) (by omega) (by omega) (by omega) (by omega)
      have e := mul_bd (a := 2 * (m / 2)) (b := n / 2) (A := 64) (B := 32) (by omega) (by omega) (by omega) (by omega)
      have hb := needN_bd d (m / 2) (q / 2) (n / 2) c (by omega) (by omega) (by omega)
      have hc2 := cube_bd (m := m / 2) (q := q / 2) (n := n / 2) (by omega) (by omega) (by omega) (by omega) (by omega) (by omega)
      unfold lend
      rw [ww (x := 2 * (m / 2)) (by omega) (by omega), ww (x := m / 2 * (q / 2)) (by omega) (by omega), ww (x := q / 2 * (n / 2)) (by omega) (by omega), ww (x := 2 * (m / 2) * (n / 2)) (by omega) (by omega)]
      rw [ww (x := m / 2 * (q / 2) + q / 2 * (n / 2)) (by omega) (by omega), ww (x := m / 2 * (q / 2) + q / 2 * (n / 2) + 2 * (m / 2) * (n / 2)) (by omega) (by omega), ww (by omega) (by omega)]
    · rw [if_neg (by simpa using h), if_neg h]
theorem odd_no {m q n c : Int} (hm0 : 1 ≤ m) (hm : m ≤ 64) (hq0 : 1 ≤ q) (hq : q ≤ 64) (hn0 : 1 ≤ n) (hn : n ≤ 64) (hc : 1 ≤ c) : winograd_odd.f m q n c = some false := by
  unfold winograd_odd.f mn mx
  rw [if_neg (by split <;> (try split) <;> omega), if_neg (by split <;> (try split) <;> omega), decide_eq_false (by omega)]
theorem Need_eq {k : Nat} {m q n c : Int} (hk : 8 ≤ k) (hm0 : 1 ≤ m) (hm : m ≤ 64) (hq0 : 1 ≤ q) (hq : q ≤ 64) (hn0 : 1 ≤ n) (hn : n ≤ 64) (hc : 1 ≤ c) : winograd_Need.f k m q n c = some (needN 7 m q n c, 0) := by
  unfold winograd_Need.f
  rw [odd_no hm0 hm hq0 hq hn0 hn hc]
  simp only [Option.bind_some]
  rw [if_neg (by simp), need_eq 7 k m q n c (by omega) (by omega) hm (by omega) (by omega) hq (by omega) hn hc]
  rfl
theorem nodd_step (k : Nat) (c : Int) (l : List Int) (i : Nat) (hl : l.length ≤ 64) (hi : i < l.length) (hg : 1 ≤ rd l i ∧ rd l i ≤ 64) : need_odd.l0 (k + 1) c l l.length i = need_odd.l0 k c l l.length (i + 1 : Nat) := by
  simp only [need_odd.l0]
  rw [if_pos (by omega), if_pos (by omega), if_pos (by omega), if_neg (by omega), if_neg (by omega), ww (by omega) (by omega)]
  rfl
theorem nodd_bad (k : Nat) (c : Int) (l : List Int) (i : Nat) (hi : i < l.length) (hg : ¬ (1 ≤ rd l i ∧ rd l i ≤ 64)) : need_odd.l0 (k + 1) c l l.length i = some true := by
  simp only [need_odd.l0]
  rw [if_pos (by omega), if_pos (by omega), if_pos (by omega)]
  split
  · rfl
  · rw [if_pos (by omega)]
theorem nodd_end (k : Nat) (c : Int) (l : List Int) : need_odd.l0 (k + 1) c l l.length (l.length : Nat) = some (decide (c < 1)) := by
  simp only [need_odd.l0]
  rw [if_neg (by omega)]
def okside (x : Int) : Bool := decide (1 ≤ x ∧ x ≤ 64)
theorem nodd1 {k : Nat} (hk : 2 ≤ k) (c a : Int) : need_odd.f k c [a] = some (!(okside a && decide (1 ≤ c))) := by
  obtain ⟨k, rfl⟩ : ∃ j, k = j + 2 := ⟨k - 2, by omega⟩
  show need_odd.l0 (k + 2) c [a] ([a].length : Nat) (0 : Nat) = _
  by_cases h : 1 ≤ a ∧ a ≤ 64
  · rw [nodd_step (k + 1) c [a] 0 (by simp) (by simp) h]
    show need_odd.l0 (k + 1) c [a] ([a].length : Nat) ([a].length : Nat) = _
    rw [nodd_end, okside, decide_eq_true h]; congr 1
    by_cases h2 : c < 1
    · rw [decide_eq_true h2, decide_eq_false (by omega)]; rfl
    · rw [decide_eq_false h2, decide_eq_true (by omega)]; rfl
  · rw [nodd_bad (k + 1) c [a] 0 (by simp) h, okside, decide_eq_false h]; rfl
theorem nodd2 {k : Nat} (hk : 3 ≤ k) (c a b : Int) : need_odd.f k c [a, b] = some (!(okside a && okside b && decide (1 ≤ c))) := by
  obtain ⟨k, rfl⟩ : ∃ j, k = j + 3 := ⟨k - 3, by omega⟩
  show need_odd.l0 (k + 3) c [a, b] ([a, b].length : Nat) (0 : Nat) = _
  by_cases h : 1 ≤ a ∧ a ≤ 64
  · rw [nodd_step (k + 2) c [a, b] 0 (by simp) (by simp) h, okside, decide_eq_true h]
    by_cases h1 : 1 ≤ b ∧ b ≤ 64
    · rw [nodd_step (k + 1) c [a, b] (0 + 1) (by simp) (by simp) h1]
      show need_odd.l0 (k + 1) c [a, b] ([a, b].length : Nat) ([a, b].length : Nat) = _
      rw [nodd_end, okside, decide_eq_true h1]; congr 1
      by_cases h2 : c < 1
      · rw [decide_eq_true h2, decide_eq_false (by omega)]; rfl
      · rw [decide_eq_false h2, decide_eq_true (by omega)]; rfl
    · rw [nodd_bad (k + 1) c [a, b] (0 + 1) (by simp) h1, okside, decide_eq_false h1]; rfl
  · rw [nodd_bad (k + 2) c [a, b] 0 (by simp) h, okside, decide_eq_false h]; rfl
theorem nodd3 {k : Nat} (hk : 4 ≤ k) (c a b e : Int) : need_odd.f k c [a, b, e] = some (!(okside a && okside b && okside e && decide (1 ≤ c))) := by
  obtain ⟨k, rfl⟩ : ∃ j, k = j + 4 := ⟨k - 4, by omega⟩
  show need_odd.l0 (k + 4) c [a, b, e] ([a, b, e].length : Nat) (0 : Nat) = _
  by_cases h : 1 ≤ a ∧ a ≤ 64
  · rw [nodd_step (k + 3) c [a, b, e] 0 (by simp) (by simp) h, okside, decide_eq_true h]
    by_cases h1 : 1 ≤ b ∧ b ≤ 64
    · rw [nodd_step (k + 2) c [a, b, e] (0 + 1) (by simp) (by simp) h1, okside, decide_eq_true h1]
      by_cases h3 : 1 ≤ e ∧ e ≤ 64
      · rw [nodd_step (k + 1) c [a, b, e] (0 + 1 + 1) (by simp) (by simp) h3]
        show need_odd.l0 (k + 1) c [a, b, e] ([a, b, e].length : Nat) ([a, b, e].length : Nat) = _
        rw [nodd_end, okside, decide_eq_true h3]; congr 1
        by_cases h2 : c < 1
        · rw [decide_eq_true h2, decide_eq_false (by omega)]; rfl
        · rw [decide_eq_false h2, decide_eq_true (by omega)]; rfl
      · rw [nodd_bad (k + 1) c [a, b, e] (0 + 1 + 1) (by simp) h3, okside, decide_eq_false h3]; rfl
    · rw [nodd_bad (k + 2) c [a, b, e] (0 + 1) (by simp) h1, okside, decide_eq_false h1]; rfl
  · rw [nodd_bad (k + 3) c [a, b, e] 0 (by simp) h, okside, decide_eq_false h]; rfl
theorem Muls_eq {k : Nat} {m q n c : Int} (hk : 8 ≤ k) (hm0 : 1 ≤ m) (hm : m ≤ 64) (hq0 : 1 ≤ q) (hq : q ≤ 64) (hn0 : 1 ≤ n) (hn : n ≤ 64) (hc : 1 ≤ c) : need_Muls.f k m q n c = some (mulN 7 m q n c, 0) := by
  unfold need_Muls.f
  rw [nodd3 (by omega), okside, okside, okside, decide_eq_true ⟨hm0, hm⟩, decide_eq_true ⟨hq0, hq⟩, decide_eq_true ⟨hn0, hn⟩, decide_eq_true hc]
  simp only [Option.bind_some]
  rw [if_neg (by simp), muls_eq 7 k m q n c (by omega) (by omega) hm (by omega) (by omega) hq (by omega) hn hc]
  rfl
theorem alive_eq {k : Nat} (hk : 8 ≤ k) : vernierlaw27_alive.f k = some true := by
  unfold vernierlaw27_alive.f
  rw [Muls_eq hk (by omega) (by omega) (by omega) (by omega) (by omega) (by omega) (by omega)]
  decide +kernel
end NeedPartsL
open NeedPartsL

theorem needN_mono : ∀ (d : Nat) (m q n M Q N c : Int), 0 ≤ m → m ≤ M → 0 ≤ q → q ≤ Q → 0 ≤ n → n ≤ N → needN d m q n c ≤ needN d M Q N c := by
  intro d
  induction d with
  | zero => intros; unfold needN; omega
  | succ d ih =>
    intro m q n M Q N c hm0 hm hq0 hq hn0 hn
    unfold needN
    have hp := needN_bd d (M / 2) (Q / 2) (N / 2) c (by omega) (by omega) (by omega)
    have hl := lend_bd (m := M) (q := Q) (n := N) (by omega) (by omega) (by omega)
    by_cases h : c < m ∧ c < q ∧ c < n
    · rw [if_pos h, if_pos (by omega)]
      have h2 := ih (m / 2) (q / 2) (n / 2) (M / 2) (Q / 2) (N / 2) c (by omega) (by omega) (by omega) (by omega) (by omega) (by omega)
      have h3 : lend m q n ≤ lend M Q N := by
        unfold lend
        have a := mul_bd (a := m / 2) (b := q / 2) (A := M / 2) (B := Q / 2) (by omega) (by omega) (by omega) (by omega)
        have b := mul_bd (a := q / 2) (b := n / 2) (A := Q / 2) (B := N / 2) (by omega) (by omega) (by omega) (by omega)
        have e := mul_bd (a := 2 * (m / 2)) (b := n / 2) (A := 2 * (M / 2)) (B := N / 2) (by omega) (by omega) (by omega) (by omega)
        omega
      omega
    · rw [if_neg h]
      split <;> omega
theorem product_eq {k : Nat} {m q n c : Int} (hk : 8 ≤ k) (hm0 : 1 ≤ m) (hm : m ≤ 64) (hq0 : 1 ≤ q) (hq : q ≤ 64) (hn0 : 1 ≤ n) (hn : n ≤ 64) (hc : 1 ≤ c) : need_product.f k m q n c = some (needN 7 m q n c) := by
  unfold need_product.f
  rw [Need_eq hk hm0 hm hq0 hq hn0 hn hc]
  rfl
theorem mx_le {a b t : Int} (ha : a ≤ t) (hb : b ≤ t) : mx a b ≤ t := by unfold mx; split <;> omega
theorem tri_le : ∀ (d k : Nat) (n m c : Int), d + 8 < k → 1 ≤ n → n ≤ 64 → n ≤ d + 1 → 1 ≤ m → m ≤ 64 → 1 ≤ c →
    ∃ r, need_tri.f k n m c = some r ∧ r ≤ needN 7 n n m c := by
  intro d
  induction d with
  | zero =>
    intro k n m c hk hn0 hn hd hm0 hm hc
    obtain ⟨k, rfl⟩ : ∃ j, k = j + 1 := ⟨k - 1, by omega⟩
    refine ⟨0, ?_, (needN_bd 7 n n m c (by omega) (by omega) (by omega)).1⟩
    simp only [need_tri.f]
    rw [if_pos (by omega)]
  | succ d ih =>
    intro k n m c hk hn0 hn hd hm0 hm hc
    obtain ⟨k, rfl⟩ : ∃ j, k = j + 1 := ⟨k - 1, by omega⟩
    simp only [need_tri.f]
    by_cases h : n = 1
    · exact ⟨0, by rw [if_pos h], (needN_bd 7 n n m c (by omega) (by omega) (by omega)).1⟩
    · rw [if_neg h, tdiv2 (by omega), ww (x := n / 2) (by omega) (by omega), ww (x := n - n / 2) (by omega) (by omega)]
      obtain ⟨r1, e1, l1⟩ := ih k (n / 2) m c (by omega) (by omega) (by omega) (by omega) hm0 hm hc
      obtain ⟨r2, e2, l2⟩ := ih k (n - n / 2) m c (by omega) (by omega) (by omega) (by omega) hm0 hm hc
      rw [e1, e2, product_eq (by omega) (by omega) (by omega) (by omega) (by omega) hm0 hm hc]
      refine ⟨_, rfl, ?_⟩
      have a1 := needN_mono 7 (n / 2) (n / 2) m n n m c (by omega) (by omega) (by omega) (by omega) (by omega) (by omega)
      have a2 := needN_mono 7 (n - n / 2) (n - n / 2) m n n m c (by omega) (by omega) (by omega) (by omega) (by omega) (by omega)
      have a3 := needN_mono 7 (n - n / 2) (n / 2) m n n m c (by omega) (by omega) (by omega) (by omega) (by omega) (by omega)
      exact mx_le (mx_le (by omega) (by omega)) a3
theorem lu_le : ∀ (d k : Nat) (m n c : Int), d + 80 < k → 1 ≤ n → n ≤ m → m ≤ 64 → n ≤ d + 1 → 1 ≤ c →
    ∃ r, need_lu.f k m n c = some r ∧ r ≤ needN 7 m n n c := by
  intro d
  induction d with
  | zero =>
    intro k m n c hk hn0 hn hm hd hc
    obtain ⟨k, rfl⟩ : ∃ j, k = j + 1 := ⟨k - 1, by omega⟩
    refine ⟨0, ?_, (needN_bd 7 m n n c (by omega) (by omega) (by omega)).1⟩
    simp only [need_lu.f]
    rw [if_pos (by omega)]
  | succ d ih =>
    intro k m n c hk hn0 hn hm hd hc
    obtain ⟨k, rfl⟩ : ∃ j, k = j + 1 := ⟨k - 1, by omega⟩
    simp only [need_lu.f]
    by_cases h : n = 1
    · exact ⟨0, by rw [if_pos h], (needN_bd 7 m n n c (by omega) (by omega) (by omega)).1⟩
    · rw [if_neg h, tdiv2 (by omega), ww (x := n / 2) (by omega) (by omega), ww (x := n - n / 2) (by omega) (by omega), ww (x := m - n / 2) (by omega) (by omega)]
      obtain ⟨r1, e1, l1⟩ := ih k m (n / 2) c (by omega) (by omega) (by omega) (by omega) (by omega) hc
      obtain ⟨r2, e2, l2⟩ := tri_le 63 k (n / 2) (n - n / 2) c (by omega) (by omega) (by omega) (by omega) (by omega) (by omega) hc
      obtain ⟨r3, e3, l3⟩ := ih k (m - n / 2) (n - n / 2) c (by omega) (by omega) (by omega) (by omega) (by omega) hc
      rw [e1, e2, e3, product_eq (by omega) (by omega) (by omega) (by omega) (by omega) (by omega) (by omega) hc]
      refine ⟨_, rfl, ?_⟩
      have a1 := needN_mono 7 m (n / 2) (n / 2) m n n c (by omega) (by omega) (by omega) (by omega) (by omega) (by omega)
      have a2 := needN_mono 7 (n / 2) (n / 2) (n - n / 2) m n n c (by omega) (by omega) (by omega) (by omega) (by omega) (by omega)
      have a3 := needN_mono 7 (m - n / 2) (n - n / 2) (n - n / 2) m n n c (by omega) (by omega) (by omega) (by omega) (by omega) (by omega)
      have a4 := needN_mono 7 (m - n / 2) (n / 2) (n - n / 2) m n n c (by omega) (by omega) (by omega) (by omega) (by omega) (by omega)
      exact mx_le (mx_le (mx_le (by omega) (by omega)) a4) (by omega)
theorem chol_le : ∀ (d k : Nat) (n c : Int), d + 80 < k → 1 ≤ n → n ≤ 64 → n ≤ d + 1 → 1 ≤ c →
    ∃ r, need_chol.f k n c = some r ∧ r ≤ needN 7 n n n c := by
  intro d
  induction d with
  | zero =>
    intro k n c hk hn0 hn hd hc
    obtain ⟨k, rfl⟩ : ∃ j, k = j + 1 := ⟨k - 1, by omega⟩
    refine ⟨0, ?_, (needN_bd 7 n n n c (by omega) (by omega) (by omega)).1⟩
    simp only [need_chol.f]
    rw [if_pos (by omega)]
  | succ d ih =>
    intro k n c hk hn0 hn hd hc
    obtain ⟨k, rfl⟩ : ∃ j, k = j + 1 := ⟨k - 1, by omega⟩
    simp only [need_chol.f]
    by_cases h : n = 1
    · exact ⟨0, by rw [if_pos h], (needN_bd 7 n n n c (by omega) (by omega) (by omega)).1⟩
    · rw [if_neg h, tdiv2 (by omega), ww (x := n / 2) (by omega) (by omega), ww (x := n - n / 2) (by omega) (by omega)]
      obtain ⟨r1, e1, l1⟩ := ih k (n / 2) c (by omega) (by omega) (by omega) (by omega) hc
      obtain ⟨r2, e2, l2⟩ := tri_le 63 k (n / 2) (n - n / 2) c (by omega) (by omega) (by omega) (by omega) (by omega) (by omega) hc
      obtain ⟨r3, e3, l3⟩ := ih k (n - n / 2) c (by omega) (by omega) (by omega) (by omega) hc
      rw [e1, e2, e3, product_eq (by omega) (by omega) (by omega) (by omega) (by omega) (by omega) (by omega) hc]
      refine ⟨_, rfl, ?_⟩
      have a1 := needN_mono 7 (n / 2) (n / 2) (n / 2) n n n c (by omega) (by omega) (by omega) (by omega) (by omega) (by omega)
      have a2 := needN_mono 7 (n / 2) (n / 2) (n - n / 2) n n n c (by omega) (by omega) (by omega) (by omega) (by omega) (by omega)
      have a3 := needN_mono 7 (n - n / 2) (n - n / 2) (n - n / 2) n n n c (by omega) (by omega) (by omega) (by omega) (by omega) (by omega)
      have a4 := needN_mono 7 (n - n / 2) (n / 2) (n - n / 2) n n n c (by omega) (by omega) (by omega) (by omega) (by omega) (by omega)
      exact mx_le (mx_le (mx_le (by omega) (by omega)) a4) (by omega)
theorem NeedParts : vernierlaw27_NeedParts.Pure := by
  intro m n c hm hn hc
  have um : ∀ x : Int, (Lit.int .u8 x).wf = true → 0 ≤ x ∧ x ≤ 255 := fun x h => by simpa [Lit.wf, IntKind.min, IntKind.max, IntKind.signed, IntKind.bits] using h
  have hm := um m hm
  have hn := um n hn
  have hc := um c hc
  refine ⟨200, ?_⟩
  unfold vernierlaw27_NeedParts.f
  rw [alive_eq (by omega)]
  simp only [Option.bind_some]
  rw [if_pos trivial]
  rw [ww (x := m) (by omega) (by omega), ww (x := n) (by omega) (by omega), ww (x := c) (by omega) (by omega), tmod2 hm.1, tmod2 hn.1, tmod2 hc.1]
  rw [ww (x := 1 + m % 40) (by omega) (by omega), ww (x := 1 + n % 40) (by omega) (by omega), ww (x := 1 + c % 20) (by omega) (by omega)]
  have hp : 1 + n % 40 ≤ mx (1 + m % 40) (1 + n % 40) ∧ mx (1 + m % 40) (1 + n % 40) ≤ 64 := by unfold mx; split <;> omega
  have hr : 1 ≤ 1 + n % 40 ∧ 1 + n % 40 ≤ 64 := by omega
  have ht : 1 ≤ 1 + c % 20 := by omega
  revert hp hr ht
  generalize mx (1 + m % 40) (1 + n % 40) = p
  generalize 1 + n % 40 = r
  generalize 1 + c % 20 = t
  intro hp hr ht
  obtain ⟨r1, e1, l1⟩ := lu_le 63 200 p r t (by omega) hr.1 hp.1 hp.2 (by omega) ht
  obtain ⟨r2, e2, l2⟩ := chol_le 63 200 r t (by omega) hr.1 hr.2 (by omega) ht
  unfold need_Product.f need_Lu.f need_Chol.f
  rw [nodd2 (by omega), nodd1 (by omega), okside, okside, decide_eq_true (p := 1 ≤ p ∧ p ≤ 64) (by omega), decide_eq_true hr, decide_eq_true ht, e1, e2,
    Need_eq (by omega) (by omega) hp.2 hr.1 hr.2 hr.1 hr.2 ht, Need_eq (by omega) hr.1 hr.2 hr.1 hr.2 hr.1 hr.2 ht]
  simp only [Option.bind_some]
  rw [if_neg (by simp), if_neg (show ¬ p < r by omega), if_neg (by simp)]
  simp only [Option.bind_some]
  rw [if_pos trivial, if_pos trivial, if_pos trivial, if_pos trivial, if_pos l1, decide_eq_true l2]

end Go.Proofs.Ythmakmmfbdmdfaa.Pure
