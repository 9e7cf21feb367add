/- The plain law behind NeedTells, joined to the walk: every number told is the page's; no conditions. -/
import Derived.Test.YthmakmmfbdmdfaaPNeedTellsx3
import Derived.Test.YthmakmmfbdmdfaaOwnTells
set_option linter.unusedVariables false
set_option linter.unusedSimpArgs false
namespace Go.Proofs.Ythmakmmfbdmdfaa.Pure
open Go.RowKit Go.Proofs.Ythmakmmfbdmdfaa Go.Proofs.Ythmakmmfbdmdfaa.PNeedTells Go.Proofs.YthmakmmfbdmdfaaW.PrintWords Go.Proofs.YthmakmmfbdmdfaaW.PrintLast Go.Proofs.YthmakmmfbdmdfaaW.PrintMore

namespace NeedTellsL
theorem ww {x : Int} (h0 : -9223372036854775808 ≤ x) (h1 : x ≤ 9223372036854775807) : wrap64 x = x := by unfold wrap64; omega
theorem mul_bd {a b A B : Int} (ha : 0 ≤ a) (hA : a ≤ A) (hb : 0 ≤ b) (hB : b ≤ B) : 0 ≤ a * b ∧ a * b ≤ A * B :=
  ⟨Int.mul_nonneg ha hb, Int.mul_le_mul hA hB hb (by omega)⟩
theorem even_all : ∀ n : Fin 65, Go.bits .andNot .i64 (n.val : Int) 1 = 2 * ((n.val : Int) / 2) := by decide +kernel
theorem even_bits {a : Int} (h0 : 0 ≤ a) (h1 : a ≤ 64) : Go.bits .andNot .i64 a 1 = 2 * (a / 2) := by
  have := even_all ⟨a.toNat, by omega⟩
  have e : ((a.toNat : Nat) : Int) = a := by omega
  simpa only [e] using this
theorem tmod2 {a b : Int} (h : 0 ≤ a) : Int.tmod a b = a % b := Int.tmod_eq_emod_of_nonneg h
theorem tdiv2 {a b : Int} (h : 0 ≤ a) : Int.tdiv a b = a / b := Int.tdiv_eq_ediv_of_nonneg h
theorem fast_eq (m q n c : Int) : winograd_Fast.f m q n c = some (decide (c < m ∧ c < q ∧ c < n)) := by
  unfold winograd_Fast.f mn
  congr 1
  by_cases h : c < m ∧ c < q ∧ c < n
  · rw [decide_eq_true h]; apply decide_eq_true; split <;> (try split) <;> omega
  · rw [decide_eq_false h]; apply decide_eq_false; split <;> (try split) <;> omega
/-- what is beside the even part -/
def edg (m q n : Int) : Int := q % 2 * (2 * (m / 2)) * (2 * (n / 2)) + n % 2 * (2 * (m / 2)) * q + m % 2 * q * n
theorem edg_bd {m q n : Int} (hm0 : 0 ≤ m) (hm : m ≤ 64) (hq0 : 0 ≤ q) (hq : q ≤ 64) (hn0 : 0 ≤ n) (hn : n ≤ 64) : 0 ≤ edg m q n ∧ edg m q n ≤ 12288 := by
  unfold edg
  have a1 := mul_bd (a := q % 2) (b := 2 * (m / 2)) (A := 1) (B := 64) (by omega) (by omega) (by omega) (by omega)
  have a2 := mul_bd (a := q % 2 * (2 * (m / 2))) (b := 2 * (n / 2)) (A := 64) (B := 64) (by omega) (by omega) (by omega) (by omega)
  have b1 := mul_bd (a := n % 2) (b := 2 * (m / 2)) (A := 1) (B := 64) (by omega) (by omega) (by omega) (by omega)
  have b2 := mul_bd (a := n % 2 * (2 * (m / 2))) (b := q) (A := 64) (B := 64) (by omega) (by omega) (by omega) (by omega)
  have c1 := mul_bd (a := m % 2) (b := q) (A := 1) (B := 64) (by omega) (by omega) (by omega) (by omega)
  have c2 := mul_bd (a := m % 2 * q) (b := n) (A := 64) (B := 64) (by omega) (by omega) (by omega) (by omega)
  omega
theorem edges_eq {m q n : Int} (hm0 : 0 ≤ m) (hm : m ≤ 64) (hq0 : 0 ≤ q) (hq : q ≤ 64) (hn0 : 0 ≤ n) (hn : n ≤ 64) : need_edges.f m q n = some (edg m q n) := by
  unfold need_edges.f
  rw [even_bits hm0 hm, even_bits hn0 hn, tmod2 hq0, tmod2 hn0, tmod2 hm0]
  have a1 := mul_bd (a := q % 2) (b := 2 * (m / 2)) (A := 1) (B := 64) (by omega) (by omega) (by omega) (by omega)
  have a2 := mul_bd (a := q % 2 * (2 * (m / 2))) (b := 2 * (n / 2)) (A := 64) (B := 64) (by omega) (by omega) (by omega) (by omega)
  have b1 := mul_bd (a := n % 2) (b := 2 * (m / 2)) (A := 1) (B := 64) (by omega) (by omega) (by omega) (by omega)
  have b2 := mul_bd (a := n % 2 * (2 * (m / 2))) (b := q) (A := 64) (B := 64) (by omega) (by omega) (by omega) (by omega)
  have c1 := mul_bd (a := m % 2) (b := q) (A := 1) (B := 64) (by omega) (by omega) (by omega) (by omega)
  have c2 := mul_bd (a := m % 2 * q) (b := n) (A := 64) (B := 64) (by omega) (by omega) (by omega) (by omega)
  rw [ww (x := q % 2 * (2 * (m / 2))) (by omega) (by omega), ww (x := q % 2 * (2 * (m / 2)) * (2 * (n / 2))) (by omega) (by omega), ww (x := n % 2 * (2 * (m / 2))) (by omega) (by omega), ww (x := n % 2 * (2 * (m / 2)) * q) (by omega) (by omega), ww (x := m % 2 * q) (by omega) (by omega), ww (x := m % 2 * q * n) (by omega) (by omega)]
  rw [ww (x := q % 2 * (2 * (m / 2)) * (2 * (n / 2)) + n % 2 * (2 * (m / 2)) * q) (by omega) (by omega), ww (by omega) (by omega)]
  rfl
theorem prod_split (p q r a b c : Int) : (2 * p + a) * (2 * q + b) * (2 * r + c) = 8 * (p * q * r) + (b * (2 * p) * (2 * r) + c * (2 * p) * (2 * q + b) + a * (2 * q + b) * (2 * r + c)) := by grind
theorem edg_eq (m q n : Int) : m * q * n = 8 * (m / 2 * (q / 2) * (n / 2)) + edg m q n := by
  have := prod_split (m / 2) (q / 2) (n / 2) (m % 2) (q % 2) (n % 2)
  rw [show 2 * (m / 2) + m % 2 = m by omega, show 2 * (q / 2) + q % 2 = q by omega, show 2 * (n / 2) + n % 2 = n by omega] at this
  unfold edg; exact this
/-- multiplications, plainly -/
def mulN : Nat → Int → Int → Int → Int → Int
  | 0, m, q, n, _ => m * q * n
  | d + 1, m, q, n, c => if c < m ∧ c < q ∧ c < n then 7 * mulN d (m / 2) (q / 2) (n / 2) c + edg m q n else m * q * n
theorem mulN_bd : ∀ (d : Nat) (m q n c : Int), 0 ≤ m → m ≤ 64 → 0 ≤ q → q ≤ 64 → 0 ≤ n → n ≤ 64 → 0 ≤ mulN d m q n c ∧ mulN d m q n c ≤ m * q * n := by
  intro d
  induction d with
  | zero =>
    intro m q n c hm0 hm hq0 hq hn0 hn
    unfold mulN
    have a1 := mul_bd (a := m) (b := q) (A := 64) (B := 64) (by omega) (by omega) (by omega) (by omega)
    have a2 := mul_bd (a := m * q) (b := n) (A := 4096) (B := 64) (by omega) (by omega) (by omega) (by omega)
    omega
  | succ d ih =>
    intro m q n c hm0 hm hq0 hq hn0 hn
    unfold mulN
    have a1 := mul_bd (a := m) (b := q) (A := 64) (B := 64) (by omega) (by omega) (by omega) (by omega)
    have a2 := mul_bd (a := m * q) (b := n) (A := 4096) (B := 64) (by omega) (by omega) (by omega) (by omega)
    split
    · have h := ih (m / 2) (q / 2) (n / 2) c (by omega) (by omega) (by omega) (by omega) (by omega) (by omega)
      have e := edg_eq m q n
      have eb := edg_bd hm0 hm hq0 hq hn0 hn
      omega
    · omega
theorem muls_eq : ∀ (d k : Nat) (m q n c : Int), d < k → 0 ≤ m → m ≤ 64 → m < 2 ^ d → 0 ≤ q → q ≤ 64 → 0 ≤ n → n ≤ 64 → 1 ≤ c →
    need_muls.f k m q n c = some (mulN d m q n c) := by
  intro d
  induction d with
  | zero =>
    intro k m q n c hk hm0 hm hd hq0 hq hn0 hn hc
    obtain ⟨k, rfl⟩ : ∃ j, k = j + 1 := ⟨k - 1, by omega⟩
    have hm1 : m = 0 := by simp at hd; omega
    subst hm1
    simp only [need_muls.f, fast_eq, mulN]
    simp only [Option.bind_some]
    rw [if_neg (by simp; omega)]
    simp [wrap64]
  | succ d ih =>
    intro k m q n c hk hm0 hm hd hq0 hq hn0 hn hc
    obtain ⟨k, rfl⟩ : ∃ j, k = j + 1 := ⟨k - 1, by omega⟩
    have hd2 : m / 2 < 2 ^ d := by rw [Int.pow_succ] at hd; omega
    simp only [need_muls.f, fast_eq, mulN]
    simp only [Option.bind_some]
    have a1 := mul_bd (a := m) (b := q) (A := 64) (B := 64) (by omega) (by omega) (by omega) (by omega)
    have a2 := mul_bd (a := m * q) (b := n) (A := 4096) (B := 64) (by omega) (by omega) (by omega) (by omega)
    by_cases h : c < m ∧ c < q ∧ c < n
    · rw [if_pos (by simpa using h), if_pos h]
      rw [tdiv2 hm0, tdiv2 hq0, tdiv2 hn0, ww (x := m / 2) (by omega) (by omega), ww (x := q / 2) (by omega) (by omega), ww (x := n / 2) (by omega) (by omega)]
      rw [ih k (m / 2) (q / 2) (n / 2) c (by omega) (by omega) (by omega) hd2 (by omega) (by omega) (by omega) (by omega) hc, edges_eq hm0 hm hq0 hq hn0 hn]
      simp only [Option.bind_some]
      have hb := mulN_bd d (m / 2) (q / 2) (n / 2) c (by omega) (by omega) (by omega) (by omega) (by omega) (by omega)
      have e := edg_eq m q n
      have eb := edg_bd hm0 hm hq0 hq hn0 hn
      rw [ww (x := 7 * mulN d (m / 2) (q / 2) (n / 2) c) (by omega) (by omega), ww (by omega) (by omega)]
    · rw [if_neg (by simpa using h), if_neg h]
      rw [ww (x := m * q) (by omega) (by omega), ww (by omega) (by omega)]
/-- what is lent, plainly -/
def lend (m q n : Int) : Int := m / 2 * (q / 2) + q / 2 * (n / 2) + 2 * (m / 2) * (n / 2)
def needN : Nat → Int → Int → Int → Int → Int
  | 0, _, _, _, _ => 0
  | d + 1, m, q, n, c => if c < m ∧ c < q ∧ c < n then lend m q n + needN d (m / 2) (q / 2) (n / 2) c else 0
def cube (m q n : Int) : Int := m * q + q * n + 2 * m * n
theorem four_mul {a b : Int} (ha : 0 ≤ a) (hb : 0 ≤ b) : 4 * (a / 2 * (b / 2)) ≤ a * b := by
  have := mul_bd (a := 2 * (a / 2)) (b := 2 * (b / 2)) (A := a) (B := b) (by omega) (by omega) (by omega) (by omega)
  have e : 2 * (a / 2) * (2 * (b / 2)) = 4 * (a / 2 * (b / 2)) := by grind
  omega
theorem lend_bd {m q n : Int} (hm0 : 0 ≤ m) (hq0 : 0 ≤ q) (hn0 : 0 ≤ n) : 0 ≤ lend m q n ∧ 4 * lend m q n ≤ cube m q n := by
  unfold lend cube
  have a := four_mul hm0 hq0
  have b := four_mul hq0 hn0
  have c := four_mul hm0 hn0
  have a' : 0 ≤ m / 2 * (q / 2) := Int.mul_nonneg (by omega) (by omega)
  have b' : 0 ≤ q / 2 * (n / 2) := Int.mul_nonneg (by omega) (by omega)
  have c' : 0 ≤ m / 2 * (n / 2) := Int.mul_nonneg (by omega) (by omega)
  rw [Int.mul_assoc 2 (m / 2), Int.mul_assoc 2 m]
  omega
theorem cube_half {m q n : Int} : cube (m / 2) (q / 2) (n / 2) = lend m q n := rfl
theorem needN_bd : ∀ (d : Nat) (m q n c : Int), 0 ≤ m → 0 ≤ q → 0 ≤ n → 0 ≤ needN d m q n c ∧ 3 * needN d m q n c ≤ cube m q n := by
  intro d
  induction d with
  | zero =>
    intro m q n c hm0 hq0 hn0
    have := lend_bd hm0 hq0 hn0
    unfold needN; omega
  | succ d ih =>
    intro m q n c hm0 hq0 hn0
    have h := lend_bd hm0 hq0 hn0
    unfold needN
    split
    · have h2 := ih (m / 2) (q / 2) (n / 2) c (by omega) (by omega) (by omega)
      rw [cube_half] at h2
      omega
    · omega
theorem cube_bd {m q n : Int} (hm0 : 0 ≤ m) (hm : m ≤ 64) (hq0 : 0 ≤ q) (hq : q ≤ 64) (hn0 : 0 ≤ n) (hn : n ≤ 64) : 0 ≤ cube m q n ∧ cube m q n ≤ 16384 := by
  unfold cube
  have a := mul_bd (a := m) (b := q) (A := 64) (B := 64) hm0 hm hq0 hq
  have b := mul_bd (a := q) (b := n) (A := 64) (B := 64) hq0 hq hn0 hn
  have c := mul_bd (a := m) (b := n) (A := 64) (B := 64) hm0 hm hn0 hn
  rw [Int.mul_assoc 2 m]
  omega
theorem need_eq : ∀ (d k : Nat) (m q n c : Int), d < k → 0 ≤ m → m ≤ 64 → m < 2 ^ d → 0 ≤ q → q ≤ 64 → 0 ≤ n → n ≤ 64 → 1 ≤ c →
    winograd_need.f k m q n c = some (needN d m q n c) := by
  intro d
  induction d with
  | zero =>
    intro k m q n c hk hm0 hm hd hq0 hq hn0 hn hc
    obtain ⟨k, rfl⟩ : ∃ j, k = j + 1 := ⟨k - 1, by omega⟩
    have hm1 : m = 0 := by simp at hd; omega
    subst hm1
    simp only [winograd_need.f, fast_eq, needN]
    simp only [Option.bind_some]
    rw [if_neg (by simp; omega)]
  | succ d ih =>
    intro k m q n c hk hm0 hm hd hq0 hq hn0 hn hc
    obtain ⟨k, rfl⟩ : ∃ j, k = j + 1 := ⟨k - 1, by omega⟩
    have hd2 : m / 2 < 2 ^ d := by rw [Int.pow_succ] at hd; omega
    simp only [winograd_need.f, fast_eq, needN]
    simp only [Option.bind_some]
    by_cases h : c < m ∧ c < q ∧ c < n
    · rw [if_pos (by simpa using h), if_pos h]
      rw [tdiv2 hm0, tdiv2 hq0, tdiv2 hn0, ww (x := m / 2) (by omega) (by omega), ww (x := q / 2) (by omega) (by omega), ww (x := n / 2) (by omega) (by omega)]
      rw [ih k (m / 2) (q / 2) (n / 2) c (by omega) (by omega) (by omega) hd2 (by omega) (by omega) (by omega) (by omega) hc]
      simp only [Option.bind_some]
      have a := mul_bd (a := m / 2) (b := q / 2) (A := 32) (B := 32) (by omega) (by omega) (by omega) (by omega)
      have b := mul_bd (a := q / 2) (b := n / 2) (A := 32) (B := 32) (by omega) (by omega) (by omega) (by omega)
      have e := mul_bd (a := 2 * (m / 2)) (b := n / 2) (A := 64) (B := 32) (by omega) (by omega) (by omega) (by omega)
      have hb := needN_bd d (m / 2) (q / 2) (n / 2) c (by omega) (by omega) (by omega)
      have hc2 := cube_bd (m := m / 2) (q := q / 2) (n := n / 2) (by omega) (by omega) (by omega) (by omega) (by omega) (by omega)
      unfold lend
      rw [ww (x := 2 * (m / 2)) (by omega) (by omega), ww (x := m / 2 * (q / 2)) (by omega) (by omega), ww (x := q / 2 * (n / 2)) (by omega) (by omega), ww (x := 2 * (m / 2) * (n / 2)) (by omega) (by omega)]
      rw [ww (x := m / 2 * (q / 2) + q / 2 * (n / 2)) (by omega) (by omega), ww (x := m / 2 * (q / 2) + q / 2 * (n / 2) + 2 * (m / 2) * (n / 2)) (by omega) (by omega), ww (by omega) (by omega)]
    · rw [if_neg (by simpa using h), if_neg h]
theorem odd_no {m q n c : Int} (hm0 : 1 ≤ m) (hm : m ≤ 64) (hq0 : 1 ≤ q) (hq : q ≤ 64) (hn0 : 1 ≤ n) (hn : n ≤ 64) (hc : 1 ≤ c) : winograd_odd.f m q n c = some false := by
  unfold winograd_odd.f mn mx
  rw [if_neg (by split <;> (try split) <;> omega), if_neg (by split <;> (try split) <;> omega), decide_eq_false (by omega)]
theorem Need_eq {k : Nat} {m q n c : Int} (hk : 8 ≤ k) (hm0 : 1 ≤ m) (hm : m ≤ 64) (hq0 : 1 ≤ q) (hq : q ≤ 64) (hn0 : 1 ≤ n) (hn : n ≤ 64) (hc : 1 ≤ c) : winograd_Need.f k m q n c = some (needN 7 m q n c, 0) := by
  unfold winograd_Need.f
  rw [odd_no hm0 hm hq0 hq hn0 hn hc]
  simp only [Option.bind_some]
  rw [if_neg (by simp), need_eq 7 k m q n c (by omega) (by omega) hm (by omega) (by omega) hq (by omega) hn hc]
  rfl
theorem nodd_step (k : Nat) (c : Int) (l : List Int) (i : Nat) (hl : l.length ≤ 64) (hi : i < l.length) (hg : 1 ≤ rd l i ∧ rd l i ≤ 64) : need_odd.l0 (k + 1) c l l.length i = need_odd.l0 k c l l.length (i + 1 : Nat) := by
  simp only [need_odd.l0]
  rw [if_pos (by omega), if_pos (by omega), if_pos (by omega), if_neg (by omega), if_neg (by omega), ww (by omega) (by omega)]
  rfl
theorem nodd_bad (k : Nat) (c : Int) (l : List Int) (i : Nat) (hi : i < l.length) (hg : ¬ (1 ≤ rd l i ∧ rd l i ≤ 64)) : need_odd.l0 (k + 1) c l l.length i = some true := by
  simp only [need_odd.l0]
  rw [if_pos (by omega), if_pos (by omega), if_pos (by omega)]
  split
  · rfl
  · rw [if_pos (by omega)]
theorem nodd_end (k : Nat) (c : Int) (l : List Int) : need_odd.l0 (k + 1) c l l.length (l.length : Nat) = some (decide (c < 1)) := by
  simp only [need_odd.l0]
  rw [if_neg (by omega)]
def okside (x : Int) : Bool := decide (1 ≤ x ∧ x ≤ 64)
theorem nodd1 {k : Nat} (hk : 2 ≤ k) (c a : Int) : need_odd.f k c [a] = some (!(okside a && decide (1 ≤ c))) := by
  obtain ⟨k, rfl⟩ : ∃ j, k = j + 2 := ⟨k - 2, by omega⟩
  show need_odd.l0 (k + 2) c [a] ([a].length : Nat) (0 : Nat) = _
  by_cases h : 1 ≤ a ∧ a ≤ 64
  · rw [nodd_step (k + 1) c [a] 0 (by simp) (by simp) h]
    show need_odd.l0 (k + 1) c [a] ([a].length : Nat) ([a].length : Nat) = _
    rw [nodd_end, okside, decide_eq_true h]; congr 1
    by_cases h2 : c < 1
    · rw [decide_eq_true h2, decide_eq_false (by omega)]; rfl
    · rw [decide_eq_false h2, decide_eq_true (by omega)]; rfl
  · rw [nodd_bad (k + 1) c [a] 0 (by simp) h, okside, decide_eq_false h]; rfl
theorem nodd2 {k : Nat} (hk : 3 ≤ k) (c a b : Int) : need_odd.f k c [a, b] = some (!(okside a && okside b && decide (1 ≤ c))) := by
  obtain ⟨k, rfl⟩ : ∃ j, k = j + 3 := ⟨k - 3, by omega⟩
  show need_odd.l0 (k + 3) c [a, b] ([a, b].length : Nat) (0 : Nat) = _
  by_cases h : 1 ≤ a ∧ a ≤ 64
  · rw [nodd_step (k + 2) c [a, b] 0 (by simp) (by simp) h, okside, decide_eq_true h]
    by_cases h1 : 1 ≤ b ∧ b ≤ 64
    · rw [nodd_step (k + 1) c [a, b] (0 + 1) (by simp) (by simp) h1]
      show need_odd.l0 (k + 1) c [a, b] ([a, b].length : Nat) ([a, b].length : Nat) = _
      rw [nodd_end, okside, decide_eq_true h1]; congr 1
      by_cases h2 : c < 1
      · rw [decide_eq_true h2, decide_eq_false (by omega)]; rfl
      · rw [decide_eq_false h2, decide_eq_true (by omega)]; rfl
    · rw [nodd_bad (k + 1) c [a, b] (0 + 1) (by simp) h1, okside, decide_eq_false h1]; rfl
  · rw [nodd_bad (k + 2) c [a, b] 0 (by simp) h, okside, decide_eq_false h]; rfl
theorem nodd3 {k : Nat} (hk : 4 ≤ k) (c a b e : Int) : need_odd.f k c [a, b, e] = some (!(okside a && okside b && okside e && decide (1 ≤ c))) := by
  obtain ⟨k, rfl⟩ : ∃ j, k = j + 4 := ⟨k - 4, by omega⟩
  show need_odd.l0 (k + 4) c [a, b, e] ([a, b, e].length : Nat) (0 : Nat) = _
  by_cases h : 1 ≤ a ∧ a ≤ 64
  · rw [nodd_step (k + 3) c [a, b, e] 0 (by simp) (by simp) h, okside, decide_eq_true h]
    by_cases h1 : 1 ≤ b ∧ b ≤ 64
    · rw [nodd_step (k + 2) c [a, b, e] (0 + 1) (by simp) (by simp) h1, okside, decide_eq_true h1]
      by_cases h3 : 1 ≤ e ∧ e ≤ 64
      · rw [nodd_step (k + 1) c [a, b, e] (0 + 1 + 1) (by simp) (by simp) h3]
        show need_odd.l0 (k + 1) c [a, b, e] ([a, b, e].length : Nat) ([a, b, e].length : Nat) = _
        rw [nodd_end, okside, decide_eq_true h3]; congr 1
        by_cases h2 : c < 1
        · rw [decide_eq_true h2, decide_eq_false (by omega)]; rfl
        · rw [decide_eq_false h2, decide_eq_true (by omega)]; rfl
      · rw [nodd_bad (k + 1) c [a, b, e] (0 + 1 + 1) (by simp) h3, okside, decide_eq_false h3]; rfl
    · rw [nodd_bad (k + 2) c [a, b, e] (0 + 1) (by simp) h1, okside, decide_eq_false h1]; rfl
  · rw [nodd_bad (k + 3) c [a, b, e] 0 (by simp) h, okside, decide_eq_false h]; rfl
theorem Muls_eq {k : Nat} {m q n c : Int} (hk : 8 ≤ k) (hm0 : 1 ≤ m) (hm : m ≤ 64) (hq0 : 1 ≤ q) (hq : q ≤ 64) (hn0 : 1 ≤ n) (hn : n ≤ 64) (hc : 1 ≤ c) : need_Muls.f k m q n c = some (mulN 7 m q n c, 0) := by
  unfold need_Muls.f
  rw [nodd3 (by omega), okside, okside, okside, decide_eq_true ⟨hm0, hm⟩, decide_eq_true ⟨hq0, hq⟩, decide_eq_true ⟨hn0, hn⟩, decide_eq_true hc]
  simp only [Option.bind_some]
  rw [if_neg (by simp), muls_eq 7 k m q n c (by omega) (by omega) hm (by omega) (by omega) hq (by omega) hn hc]
  rfl
theorem alive_eq {k : Nat} (hk : 8 ≤ k) : vernierlaw27_alive.f k = some true := by
  unfold vernierlaw27_alive.f
  rw [Muls_eq hk (by omega) (by omega) (by omega) (by omega) (by omega) (by omega) (by omega)]
  decide +kernel
theorem product_eq {k : Nat} {m q n c : Int} (hk : 8 ≤ k) (hm0 : 1 ≤ m) (hm : m ≤ 64) (hq0 : 1 ≤ q) (hq : q ≤ 64) (hn0 : 1 ≤ n) (hn : n ≤ 64) (hc : 1 ≤ c) : need_product.f k m q n c = some (needN 7 m q n c) := by
  unfold need_product.f
  rw [Need_eq hk hm0 hm hq0 hq hn0 hn hc]
  rfl
theorem tri_some : ∀ (d k : Nat) (n m c : Int), d + 8 < k → 1 ≤ n → n ≤ 64 → n ≤ d + 1 → 1 ≤ m → m ≤ 64 → 1 ≤ c → ∃ r, need_tri.f k n m c = some r := by
  intro d
  induction d with
  | zero =>
    intro k n m c hk hn0 hn hd hm0 hm hc
    obtain ⟨k, rfl⟩ : ∃ j, k = j + 1 := ⟨k - 1, by omega⟩
    refine ⟨0, ?_⟩
    simp only [need_tri.f]
    rw [if_pos (by omega)]
  | succ d ih =>
    intro k n m c hk hn0 hn hd hm0 hm hc
    obtain ⟨k, rfl⟩ : ∃ j, k = j + 1 := ⟨k - 1, by omega⟩
    simp only [need_tri.f]
    by_cases h : n = 1
    · exact ⟨0, by rw [if_pos h]⟩
    · rw [if_neg h, tdiv2 (by omega), ww (x := n / 2) (by omega) (by omega), ww (x := n - n / 2) (by omega) (by omega)]
      obtain ⟨r1, e1⟩ := ih k (n / 2) m c (by omega) (by omega) (by omega) (by omega) hm0 hm hc
      obtain ⟨r2, e2⟩ := ih k (n - n / 2) m c (by omega) (by omega) (by omega) (by omega) hm0 hm hc
      rw [e1, e2, product_eq (by omega) (by omega) (by omega) (by omega) (by omega) hm0 hm hc]
      exact ⟨_, rfl⟩
theorem lu_some : ∀ (d k : Nat) (m n c : Int), d + 80 < k → 1 ≤ n → n ≤ m → m ≤ 64 → n ≤ d + 1 → 1 ≤ c → ∃ r, need_lu.f k m n c = some r := by
  intro d
  induction d with
  | zero =>
    intro k m n c hk hn0 hn hm hd hc
    obtain ⟨k, rfl⟩ : ∃ j, k = j + 1 := ⟨k - 1, by omega⟩
    refine ⟨0, ?_⟩
    simp only [need_lu.f]
    rw [if_pos (by omega)]
  | succ d ih =>
    intro k m n c hk hn0 hn hm hd hc
    obtain ⟨k, rfl⟩ : ∃ j, k = j + 1 := ⟨k - 1, by omega⟩
    simp only [need_lu.f]
    by_cases h : n = 1
    · exact ⟨0, by rw [if_pos h]⟩
    · rw [if_neg h, tdiv2 (by omega), ww (x := n / 2) (by omega) (by omega), ww (x := n - n / 2) (by omega) (by omega), ww (x := m - n / 2) (by omega) (by omega)]
      obtain ⟨r1, e1⟩ := ih k m (n / 2) c (by omega) (by omega) (by omega) (by omega) (by omega) hc
      obtain ⟨r2, e2⟩ := tri_some 63 k (n / 2) (n - n / 2) c (by omega) (by omega) (by omega) (by omega) (by omega) (by omega) hc
      obtain ⟨r3, e3⟩ := ih k (m - n / 2) (n - n / 2) c (by omega) (by omega) (by omega) (by omega) (by omega) hc
      rw [e1, e2, e3, product_eq (by omega) (by omega) (by omega) (by omega) (by omega) (by omega) (by omega) hc]
      exact ⟨_, rfl⟩
theorem chol_some : ∀ (d k : Nat) (n c : Int), d + 80 < k → 1 ≤ n → n ≤ 64 → n ≤ d + 1 → 1 ≤ c → ∃ r, need_chol.f k n c = some r := by
  intro d
  induction d with
  | zero =>
    intro k n c hk hn0 hn hd hc
    obtain ⟨k, rfl⟩ : ∃ j, k = j + 1 := ⟨k - 1, by omega⟩
    refine ⟨0, ?_⟩
    simp only [need_chol.f]
    rw [if_pos (by omega)]
  | succ d ih =>
    intro k n c hk hn0 hn hd hc
    obtain ⟨k, rfl⟩ : ∃ j, k = j + 1 := ⟨k - 1, by omega⟩
    simp only [need_chol.f]
    by_cases h : n = 1
    · exact ⟨0, by rw [if_pos h]⟩
    · rw [if_neg h, tdiv2 (by omega), ww (x := n / 2) (by omega) (by omega), ww (x := n - n / 2) (by omega) (by omega)]
      obtain ⟨r1, e1⟩ := ih k (n / 2) c (by omega) (by omega) (by omega) (by omega) hc
      obtain ⟨r2, e2⟩ := tri_some 63 k (n / 2) (n - n / 2) c (by omega) (by omega) (by omega) (by omega) (by omega) (by omega) hc
      obtain ⟨r3, e3⟩ := ih k (n - n / 2) c (by omega) (by omega) (by omega) (by omega) hc
      rw [e1, e2, e3, product_eq (by omega) (by omega) (by omega) (by omega) (by omega) (by omega) (by omega) hc]
      exact ⟨_, rfl⟩
theorem words_eq (k : Nat) (m q n c : Int) : vernierlaw27_words.f k m q n c = need_product.f k m q n c := rfl
theorem ltri_eq : ∀ (k : Nat) (n m c : Int), vernierlaw27_tri.f k n m c = need_tri.f k n m c := by
  intro k
  induction k with
  | zero => intros; rfl
  | succ k ih => intro n m c; simp only [vernierlaw27_tri.f, need_tri.f, ih, words_eq]
theorem llu_eq : ∀ (k : Nat) (m n c : Int), vernierlaw27_lu.f k m n c = need_lu.f k m n c := by
  intro k
  induction k with
  | zero => intros; rfl
  | succ k ih => intro m n c; simp only [vernierlaw27_lu.f, need_lu.f, ih, words_eq, ltri_eq]
theorem lchol_eq : ∀ (k : Nat) (n c : Int), vernierlaw27_chol.f k n c = need_chol.f k n c := by
  intro k
  induction k with
  | zero => intros; rfl
  | succ k ih => intro n c; simp only [vernierlaw27_chol.f, need_chol.f, ih, words_eq, ltri_eq]
/-- additions, plainly -/
def four (m q n : Int) : Int := 4 * (m / 2) * (q / 2) + 4 * (q / 2) * (n / 2) + 7 * (m / 2) * (n / 2)
def addN : Nat → Int → Int → Int → Int → Int
  | 0, m, q, n, _ => m * q * n
  | d + 1, m, q, n, c => if c < m ∧ c < q ∧ c < n then 7 * addN d (m / 2) (q / 2) (n / 2) c + four m q n + edg m q n else m * q * n
theorem le_mul {a b : Int} (ha : 0 ≤ a) (hb : 1 ≤ b) : a ≤ a * b := by
  have := Int.mul_le_mul_of_nonneg_left hb ha
  omega
theorem four_bd {m q n : Int} (hm : 2 ≤ m) (hq : 2 ≤ q) (hn : 2 ≤ n) : 0 ≤ four m q n ∧ four m q n ≤ 15 * (m / 2 * (q / 2) * (n / 2)) := by
  unfold four
  have a : 0 ≤ m / 2 * (q / 2) := Int.mul_nonneg (by omega) (by omega)
  have b : 0 ≤ q / 2 * (n / 2) := Int.mul_nonneg (by omega) (by omega)
  have e : 0 ≤ m / 2 * (n / 2) := Int.mul_nonneg (by omega) (by omega)
  have a' := le_mul a (b := n / 2) (by omega)
  have b' := le_mul b (b := m / 2) (by omega)
  have e' := le_mul e (b := q / 2) (by omega)
  have r1 : q / 2 * (n / 2) * (m / 2) = m / 2 * (q / 2) * (n / 2) := by grind
  have r2 : m / 2 * (n / 2) * (q / 2) = m / 2 * (q / 2) * (n / 2) := by grind
  have r3 : 4 * (m / 2) * (q / 2) = 4 * (m / 2 * (q / 2)) := by grind
  have r4 : 4 * (q / 2) * (n / 2) = 4 * (q / 2 * (n / 2)) := by grind
  have r5 : 7 * (m / 2) * (n / 2) = 7 * (m / 2 * (n / 2)) := by grind
  omega
theorem addN_bd : ∀ (d : Nat) (m q n c : Int), 0 ≤ m → m ≤ 64 → 0 ≤ q → q ≤ 64 → 0 ≤ n → n ≤ 64 → 1 ≤ c → 0 ≤ addN d m q n c ∧ addN d m q n c ≤ 15 * (m * q * n) := by
  intro d
  induction d with
  | zero =>
    intro m q n c hm0 hm hq0 hq hn0 hn hc
    unfold addN
    have a1 := mul_bd (a := m) (b := q) (A := 64) (B := 64) (by omega) (by omega) (by omega) (by omega)
    have a2 := mul_bd (a := m * q) (b := n) (A := 4096) (B := 64) (by omega) (by omega) (by omega) (by omega)
    omega
  | succ d ih =>
    intro m q n c hm0 hm hq0 hq hn0 hn hc
    unfold addN
    have a1 := mul_bd (a := m) (b := q) (A := 64) (B := 64) (by omega) (by omega) (by omega) (by omega)
    have a2 := mul_bd (a := m * q) (b := n) (A := 4096) (B := 64) (by omega) (by omega) (by omega) (by omega)
    split
    · have h := ih (m / 2) (q / 2) (n / 2) c (by omega) (by omega) (by omega) (by omega) (by omega) (by omega) hc
      have e := edg_eq m q n
      have eb := edg_bd hm0 hm hq0 hq hn0 hn
      have f := four_bd (m := m) (q := q) (n := n) (by omega) (by omega) (by omega)
      omega
    · omega
theorem cubes {m q n : Int} (hm0 : 0 ≤ m) (hm : m ≤ 64) (hq0 : 0 ≤ q) (hq : q ≤ 64) (hn0 : 0 ≤ n) (hn : n ≤ 64) : 0 ≤ m * q ∧ m * q ≤ 4096 ∧ 0 ≤ m * q * n ∧ m * q * n ≤ 262144 := by
  have a1 := mul_bd (a := m) (b := q) (A := 64) (B := 64) (by omega) (by omega) (by omega) (by omega)
  have a2 := mul_bd (a := m * q) (b := n) (A := 4096) (B := 64) (by omega) (by omega) (by omega) (by omega)
  omega
theorem sum_eq {m q n X : Int} (hm0 : 0 ≤ m) (hm : m ≤ 64) (hq0 : 0 ≤ q) (hq : q ≤ 64) (hn0 : 0 ≤ n) (hn : n ≤ 64) (hX0 : 0 ≤ X) (hX : X ≤ 4000000) :
    wrap64 (wrap64 (wrap64 (wrap64 (7 * X) + wrap64 (wrap64 (4 * (m / 2)) * (q / 2))) + wrap64 (wrap64 (4 * (q / 2)) * (n / 2))) + wrap64 (wrap64 (7 * (m / 2)) * (n / 2))) = 7 * X + four m q n := by
  have a := mul_bd (a := 4 * (m / 2)) (b := q / 2) (A := 128) (B := 32) (by omega) (by omega) (by omega) (by omega)
  have b := mul_bd (a := 4 * (q / 2)) (b := n / 2) (A := 128) (B := 32) (by omega) (by omega) (by omega) (by omega)
  have e := mul_bd (a := 7 * (m / 2)) (b := n / 2) (A := 224) (B := 32) (by omega) (by omega) (by omega) (by omega)
  rw [ww (x := 4 * (m / 2)) (by omega) (by omega), ww (x := 4 * (q / 2)) (by omega) (by omega), ww (x := 7 * (m / 2)) (by omega) (by omega), ww (x := 7 * X) (by omega) (by omega)]
  rw [ww (x := 4 * (m / 2) * (q / 2)) (by omega) (by omega), ww (x := 4 * (q / 2) * (n / 2)) (by omega) (by omega), ww (x := 7 * (m / 2) * (n / 2)) (by omega) (by omega)]
  rw [ww (x := 7 * X + 4 * (m / 2) * (q / 2)) (by omega) (by omega), ww (x := 7 * X + 4 * (m / 2) * (q / 2) + 4 * (q / 2) * (n / 2)) (by omega) (by omega), ww (by omega) (by omega)]
  unfold four
  omega
theorem four_up {m q n : Int} (hm0 : 0 ≤ m) (hm : m ≤ 64) (hq0 : 0 ≤ q) (hq : q ≤ 64) (hn0 : 0 ≤ n) (hn : n ≤ 64) : 0 ≤ four m q n ∧ four m q n ≤ 15360 := by
  unfold four
  have a := mul_bd (a := 4 * (m / 2)) (b := q / 2) (A := 128) (B := 32) (by omega) (by omega) (by omega) (by omega)
  have b := mul_bd (a := 4 * (q / 2)) (b := n / 2) (A := 128) (B := 32) (by omega) (by omega) (by omega) (by omega)
  have e := mul_bd (a := 7 * (m / 2)) (b := n / 2) (A := 224) (B := 32) (by omega) (by omega) (by omega) (by omega)
  omega
theorem adds_eq : ∀ (d k : Nat) (m q n c : Int), d < k → 0 ≤ m → m ≤ 64 → m < 2 ^ d → 0 ≤ q → q ≤ 64 → 0 ≤ n → n ≤ 64 → 1 ≤ c →
    need_adds.f k m q n c = some (addN d m q n c) := by
  intro d
  induction d with
  | zero =>
    intro k m q n c hk hm0 hm hd hq0 hq hn0 hn hc
    obtain ⟨k, rfl⟩ : ∃ j, k = j + 1 := ⟨k - 1, by omega⟩
    have hm1 : m = 0 := by simp at hd; omega
    subst hm1
    simp only [need_adds.f, fast_eq, addN]
    simp only [Option.bind_some]
    rw [if_neg (by simp; omega)]
    simp [wrap64]
  | succ d ih =>
    intro k m q n c hk hm0 hm hd hq0 hq hn0 hn hc
    obtain ⟨k, rfl⟩ : ∃ j, k = j + 1 := ⟨k - 1, by omega⟩
    have hd2 : m / 2 < 2 ^ d := by rw [Int.pow_succ] at hd; omega
    simp only [need_adds.f, fast_eq, addN]
    simp only [Option.bind_some]
    have a1 := cubes hm0 hm hq0 hq hn0 hn
    by_cases h : c < m ∧ c < q ∧ c < n
    · rw [if_pos (by simpa using h), if_pos h]
      rw [tdiv2 hm0, tdiv2 hq0, tdiv2 hn0, ww (x := m / 2) (by omega) (by omega), ww (x := q / 2) (by omega) (by omega), ww (x := n / 2) (by omega) (by omega)]
      rw [ih k (m / 2) (q / 2) (n / 2) c (by omega) (by omega) (by omega) hd2 (by omega) (by omega) (by omega) (by omega) hc, edges_eq hm0 hm hq0 hq hn0 hn]
      simp only [Option.bind_some]
      have hb := addN_bd d (m / 2) (q / 2) (n / 2) c (by omega) (by omega) (by omega) (by omega) (by omega) (by omega) hc
      have a2 := cubes (m := m / 2) (q := q / 2) (n := n / 2) (by omega) (by omega) (by omega) (by omega) (by omega) (by omega)
      have eb := edg_bd hm0 hm hq0 hq hn0 hn
      have fb := four_up hm0 hm hq0 hq hn0 hn
      rw [sum_eq hm0 hm hq0 hq hn0 hn hb.1 (by omega), ww (by omega) (by omega)]
    · rw [if_neg (by simpa using h), if_neg h]
      rw [ww (x := m * q) (by omega) (by omega), ww (by omega) (by omega)]
/-- the edges, as the law adds them up -/
theorem edg_parts (m q n : Int) : edg m q n = (if q % 2 = 1 then 4 * (m / 2) * (n / 2) else 0) + (if n % 2 = 1 then 2 * (m / 2) * q else 0) + (if m % 2 = 1 then q * n else 0) := by
  unfold edg
  have h1 : q % 2 = 0 ∨ q % 2 = 1 := by omega
  have h2 : n % 2 = 0 ∨ n % 2 = 1 := by omega
  have h3 : m % 2 = 0 ∨ m % 2 = 1 := by omega
  have r : 2 * (m / 2) * (2 * (n / 2)) = 4 * (m / 2) * (n / 2) := by grind
  rcases h1 with h1 | h1 <;> rcases h2 with h2 | h2 <;> rcases h3 with h3 | h3 <;> simp [h1, h2, h3, r]
theorem count_eq : ∀ (d k : Nat) (m q n c : Int), 3 * d + 2 < k → 0 ≤ m → m ≤ 64 → m < 2 ^ d → 0 ≤ q → q ≤ 64 → 0 ≤ n → n ≤ 64 → 1 ≤ c →
    vernierlaw27_count.f k m q n c = some (mulN d m q n c, addN d m q n c) := by
  intro d
  induction d with
  | zero =>
    intro k m q n c hk hm0 hm hd hq0 hq hn0 hn hc
    obtain ⟨k, rfl⟩ : ∃ j, k = j + 2 := ⟨k - 2, by omega⟩
    have hm1 : m = 0 := by simp at hd; omega
    subst hm1
    simp only [vernierlaw27_count.f, vernierlaw27_count.j0, mulN, addN]
    rw [if_pos (by omega)]
    simp [wrap64]
  | succ d ih =>
    intro k m q n c hk hm0 hm hd hq0 hq hn0 hn hc
    obtain ⟨k, rfl⟩ : ∃ j, k = j + 3 := ⟨k - 3, by omega⟩
    have hd2 : m / 2 < 2 ^ d := by rw [Int.pow_succ] at hd; omega
    have a1 := cubes hm0 hm hq0 hq hn0 hn
    by_cases h : c < m ∧ c < q ∧ c < n
    · have e0 : vernierlaw27_count.f (k + 3) m q n c = vernierlaw27_count.j0 (k + 2) m q n c false := by
        simp only [vernierlaw27_count.f]
        rw [if_neg (by omega), if_neg (by omega), decide_eq_false (by omega)]
      rw [e0]
      simp only [vernierlaw27_count.j0, mulN, addN]
      rw [if_neg (by simp), if_pos h, if_pos h]
      rw [tdiv2 hm0, tdiv2 hq0, tdiv2 hn0, ww (x := m / 2) (by omega) (by omega), ww (x := q / 2) (by omega) (by omega), ww (x := n / 2) (by omega) (by omega)]
      rw [ih (k + 1) (m / 2) (q / 2) (n / 2) c (by omega) (by omega) (by omega) hd2 (by omega) (by omega) (by omega) (by omega) hc]
      simp only [Option.bind_some]
      have hb := addN_bd d (m / 2) (q / 2) (n / 2) c (by omega) (by omega) (by omega) (by omega) (by omega) (by omega) hc
      have hM := mulN_bd d (m / 2) (q / 2) (n / 2) c (by omega) (by omega) (by omega) (by omega) (by omega) (by omega)
      have a2 := cubes (m := m / 2) (q := q / 2) (n := n / 2) (by omega) (by omega) (by omega) (by omega) (by omega) (by omega)
      have eb := edg_bd hm0 hm hq0 hq hn0 hn
      have fb := four_up hm0 hm hq0 hq hn0 hn
      have ep := edg_parts m q n
      have z1 := mul_bd (a := 4 * (m / 2)) (b := n / 2) (A := 128) (B := 32) (by omega) (by omega) (by omega) (by omega)
      have z2 := mul_bd (a := 2 * (m / 2)) (b := q) (A := 64) (B := 64) (by omega) (by omega) (by omega) (by omega)
      have z3 := mul_bd (a := q) (b := n) (A := 64) (B := 64) (by omega) (by omega) (by omega) (by omega)
      have w1 : wrap64 (wrap64 (4 * (m / 2)) * (n / 2)) = 4 * (m / 2) * (n / 2) := by rw [ww (x := 4 * (m / 2)) (by omega) (by omega), ww (by omega) (by omega)]
      have w2 : wrap64 (wrap64 (2 * (m / 2)) * q) = 2 * (m / 2) * q := by rw [ww (x := 2 * (m / 2)) (by omega) (by omega), ww (by omega) (by omega)]
      have w3 : wrap64 (q * n) = q * n := ww (by omega) (by omega)
      have w4 : wrap64 (7 * mulN d (m / 2) (q / 2) (n / 2) c) = 7 * mulN d (m / 2) (q / 2) (n / 2) c := ww (by omega) (by omega)
      have w5 := sum_eq hm0 hm hq0 hq hn0 hn hb.1 (by omega)
      have key : ∀ z : Int, z = (if q % 2 = 1 then 4 * (m / 2) * (n / 2) else 0) → vernierlaw27_count.j1 (k + 1) m q n (m / 2) (q / 2) (n / 2) (mulN d (m / 2) (q / 2) (n / 2) c) (addN d (m / 2) (q / 2) (n / 2) c) z = some (7 * mulN d (m / 2) (q / 2) (n / 2) c + edg m q n, 7 * addN d (m / 2) (q / 2) (n / 2) c + four m q n + edg m q n) := by
        intro z hz
        rw [← hz] at ep
        have z0 : 0 ≤ z ∧ z ≤ 4096 := by rw [hz]; split <;> omega
        simp only [vernierlaw27_count.j1]
        rw [tmod2 hn0, tmod2 hm0, w2, w3, w4, w5]
        by_cases h2 : n % 2 = 1
        · rw [if_pos h2]
          rw [if_pos h2] at ep
          by_cases h3 : m % 2 = 1
          · rw [if_pos h3]
            rw [if_pos h3] at ep
            rw [ww (x := z + 2 * (m / 2) * q) (by omega) (by omega), ww (x := z + 2 * (m / 2) * q + q * n) (by omega) (by omega), ep, ww (by omega) (by omega), ww (by omega) (by omega)]
          · rw [if_neg h3]
            rw [if_neg h3] at ep
            rw [ww (x := z + 2 * (m / 2) * q) (by omega) (by omega), show edg m q n = z + 2 * (m / 2) * q by omega, ww (by omega) (by omega), ww (by omega) (by omega)]
        · rw [if_neg h2]
          rw [if_neg h2] at ep
          by_cases h3 : m % 2 = 1
          · rw [if_pos h3]
            rw [if_pos h3] at ep
            rw [ww (x := z + q * n) (by omega) (by omega), show edg m q n = z + q * n by omega, ww (by omega) (by omega), ww (by omega) (by omega)]
          · rw [if_neg h3]
            rw [if_neg h3] at ep
            rw [show edg m q n = z by omega, ww (by omega) (by omega), ww (by omega) (by omega)]
      rw [tmod2 hq0, w1]
      split
      · rename_i h1
        rw [ww (x := 0 + 4 * (m / 2) * (n / 2)) (by omega) (by omega)]
        exact key _ (by rw [if_pos h1]; omega)
      · rename_i h1
        exact key _ (by rw [if_neg h1])
    · have e0 : vernierlaw27_count.f (k + 3) m q n c = vernierlaw27_count.j0 (k + 2) m q n c true := by
        simp only [vernierlaw27_count.f]
        by_cases h1 : m ≤ c
        · rw [if_pos h1]
        · rw [if_neg h1]
          by_cases h2 : q ≤ c
          · rw [if_pos h2]
          · rw [if_neg h2, decide_eq_true (by omega)]
      rw [e0]
      simp only [vernierlaw27_count.j0, mulN, addN, if_true]
      rw [if_neg h, if_neg h, ww (x := m * q) (by omega) (by omega), ww (by omega) (by omega)]
theorem side_eq (a : Int) : vernierlaw27_side.f a = some (okside a) := by
  unfold vernierlaw27_side.f okside
  by_cases h : a ≥ 1
  · rw [if_pos h]; congr 1; rw [Bool.eq_iff_iff]; simp; omega
  · rw [if_neg h, decide_eq_false (by omega)]
theorem Need_gen {k : Nat} (m q n c : Int) (hk : 8 ≤ k) : winograd_Need.f k m q n c = some (if okside m && okside q && okside n && decide (1 ≤ c) then (needN 7 m q n c, 0) else (0, 4)) := by
  by_cases h : (okside m && okside q && okside n && decide (1 ≤ c)) = true
  · rw [if_pos h]
    simp [okside] at h
    exact Need_eq hk (by omega) (by omega) (by omega) (by omega) (by omega) (by omega) (by omega)
  · rw [if_neg h]
    simp [okside] at h
    unfold winograd_Need.f winograd_odd.f
    have l1 : mn (mn m q) n ≤ m ∧ mn (mn m q) n ≤ q ∧ mn (mn m q) n ≤ n := by unfold mn; split <;> split <;> omega
    have l2 : m ≤ mx (mx m q) n ∧ q ≤ mx (mx m q) n ∧ n ≤ mx (mx m q) n := by unfold mx; split <;> split <;> omega
    by_cases c1 : mn (mn m q) n < 1
    · rw [if_pos c1]; rfl
    · rw [if_neg c1]
      by_cases c2 : mx (mx m q) n > 64
      · rw [if_pos c2]; rfl
      · rw [if_neg c2, decide_eq_true (by omega)]; rfl
theorem side_bd {a : Int} (h : okside a = true) : 1 ≤ a ∧ a ≤ 64 := by simpa [okside] using h
theorem NeedTells_calls (a0 a1 a2 a3 : Int) (w : World) :
    Calls Try.prog 10 #[.int .i64 a0, .int .i64 a1, .int .i64 a2, .int .i64 a3] w fun e w' => e = .returned (.bool true) ∧ Below w.heap.size w w' := by
  have told1 : ∀ x : Int, vernierlaw27_told.f x 0 true x = some true := fun x => by simp [vernierlaw27_told.f]
  have told0 : vernierlaw27_told.f 0 4 false 0 = some true := by simp [vernierlaw27_told.f]
  -- what each call comes to
  have hS0 := side_eq a0
  have hS1 := side_eq a1
  have hS2 := side_eq a2
  have tri_ : ∃ r, (okside a0 && okside a2 && decide (1 ≤ a3)) = true → need_tri.f 200 a2 a0 a3 = some r := by
    by_cases h : (okside a0 && okside a2 && decide (1 ≤ a3)) = true
    · simp only [Bool.and_eq_true, decide_eq_true_eq] at h
      have b0 := side_bd h.1.1
      have b2 := side_bd h.1.2
      obtain ⟨r, e⟩ := tri_some 63 200 a2 a0 a3 (by omega) b2.1 b2.2 (by omega) b0.1 b0.2 h.2
      exact ⟨r, fun _ => e⟩
    · exact ⟨0, fun h' => absurd h' h⟩
  have lu_ : ∃ r, (okside a0 && okside a2 && decide (1 ≤ a3) && decide (a2 ≤ a0)) = true → need_lu.f 200 a0 a2 a3 = some r := by
    by_cases h : (okside a0 && okside a2 && decide (1 ≤ a3) && decide (a2 ≤ a0)) = true
    · simp only [Bool.and_eq_true, decide_eq_true_eq] at h
      have b0 := side_bd h.1.1.1
      have b2 := side_bd h.1.1.2
      obtain ⟨r, e⟩ := lu_some 63 200 a0 a2 a3 (by omega) b2.1 h.2 b0.2 (by omega) h.1.2
      exact ⟨r, fun _ => e⟩
    · exact ⟨0, fun h' => absurd h' h⟩
  have chol_ : ∃ r, (okside a2 && decide (1 ≤ a3)) = true → need_chol.f 200 a2 a3 = some r := by
    by_cases h : (okside a2 && decide (1 ≤ a3)) = true
    · simp only [Bool.and_eq_true, decide_eq_true_eq] at h
      have b2 := side_bd h.1
      obtain ⟨r, e⟩ := chol_some 63 200 a2 a3 (by omega) b2.1 b2.2 (by omega) h.2
      exact ⟨r, fun _ => e⟩
    · exact ⟨0, fun h' => absurd h' h⟩
  obtain ⟨wb, hwb⟩ := tri_
  obtain ⟨wc, hwc⟩ := lu_
  obtain ⟨wd, hwd⟩ := chol_
  have eP := Need_gen (k := 200) a0 a1 a2 a3 (by omega)
  have eA : (okside a0 && okside a1 && okside a2 && decide (1 ≤ a3)) = true → need_muls.f 200 a0 a1 a2 a3 = some (mulN 7 a0 a1 a2 a3) ∧ need_adds.f 200 a0 a1 a2 a3 = some (addN 7 a0 a1 a2 a3) ∧ vernierlaw27_count.f 200 a0 a1 a2 a3 = some (mulN 7 a0 a1 a2 a3, addN 7 a0 a1 a2 a3) := by
    intro h
    simp only [Bool.and_eq_true, decide_eq_true_eq] at h
    have b0 := side_bd h.1.1.1
    have b1 := side_bd h.1.1.2
    have b2 := side_bd h.1.2
    exact ⟨muls_eq 7 200 a0 a1 a2 a3 (by omega) (by omega) b0.2 (by omega) (by omega) b1.2 (by omega) b2.2 h.2, adds_eq 7 200 a0 a1 a2 a3 (by omega) (by omega) b0.2 (by omega) (by omega) b1.2 (by omega) b2.2 h.2, count_eq 7 200 a0 a1 a2 a3 (by omega) (by omega) b0.2 (by omega) (by omega) b1.2 (by omega) b2.2 h.2⟩
  revert hwb hwc hwd eP eA
  generalize hal : (okside a0 && okside a1 && okside a2 && decide (1 ≤ a3)) = al
  generalize htw : (okside a0 && okside a2 && decide (1 ≤ a3)) = tw
  generalize htm : (tw && decide (a2 ≤ a0)) = tm
  generalize hsc : (okside a2 && decide (1 ≤ a3)) = sc
  intro hwb hwc hwd eP eA
  refine OwnTells.walk 200 a0 a1 a2 a3 (okside a0) (okside a1) (okside a2) al tw tm sc
    (if al then needN 7 a0 a1 a2 a3 else 0) (if al then 0 else 4) (if tw then wb else 0) (if tw then 0 else 4) (if tm then wc else 0) (if tm then 0 else 4) (if sc then wd else 0) (if sc then 0 else 4)
    (if al then mulN 7 a0 a1 a2 a3 else 0) (if al then 0 else 4) (if al then addN 7 a0 a1 a2 a3 else 0) (if al then 0 else 4)
    (if al then needN 7 a0 a1 a2 a3 else 0) (if tw then wb else 0) (if tm then wc else 0) (if sc then wd else 0) (if al then mulN 7 a0 a1 a2 a3 else 0) (if al then addN 7 a0 a1 a2 a3 else 0) w
    ⟨alive_eq (by omega)⟩ ⟨?_⟩ ⟨?_⟩ ⟨?_⟩ ⟨?_⟩ ⟨?_⟩ ⟨?_⟩ ⟨hS0⟩ ⟨hS1⟩ ⟨hS2⟩ ⟨hal.symm⟩ ⟨htw.symm⟩ ⟨htm.symm⟩ ⟨hsc.symm⟩ ⟨?_⟩ ⟨?_⟩ ⟨?_⟩ ⟨?_⟩ ⟨?_⟩ ⟨?_⟩ ⟨?_⟩ ⟨?_⟩ ⟨?_⟩ ⟨?_⟩ ⟨?_⟩ ⟨?_⟩ ⟨?_⟩ ⟨?_⟩
  · unfold need_Product.f
    rw [eP]; cases al <;> rfl
  · unfold need_Tri.f
    rw [nodd2 (by omega), Bool.and_comm (okside a2) (okside a0), htw]
    simp only [Option.bind_some]
    cases tw
    · rfl
    · rw [hwb rfl]; rfl
  · unfold need_Lu.f
    rw [nodd2 (by omega), htw]
    simp only [Option.bind_some]
    cases tw
    · subst htm; rfl
    · rw [Bool.true_and] at htm
      by_cases hm : a2 ≤ a0
      · rw [decide_eq_true hm] at htm
        subst htm
        rw [hwc rfl, if_neg (by simp), if_neg (by omega)]; rfl
      · rw [decide_eq_false hm] at htm
        subst htm
        rw [if_neg (by simp), if_pos (by omega)]; rfl
  · unfold need_Chol.f
    rw [nodd1 (by omega), hsc]
    simp only [Option.bind_some]
    cases sc
    · rfl
    · rw [hwd rfl]; rfl
  · unfold need_Muls.f
    rw [nodd3 (by omega), hal]
    simp only [Option.bind_some]
    cases al
    · rfl
    · rw [(eA rfl).1]; rfl
  · unfold need_Adds.f
    rw [nodd3 (by omega), hal]
    simp only [Option.bind_some]
    cases al
    · rfl
    · rw [(eA rfl).2.1]; rfl
  · intro h
    subst h
    refine ⟨?_, (eA rfl).2.2⟩
    unfold vernierlaw27_words.f
    rw [eP]; rfl
  · intro h; subst h; exact ⟨rfl, rfl, rfl⟩
  · intro h; subst h; rw [ltri_eq]; exact hwb rfl
  · intro h; subst h; rfl
  · intro h; subst h; rw [llu_eq]; exact hwc rfl
  · intro h; subst h; rfl
  · intro h; subst h; rw [lchol_eq]; exact hwd rfl
  · intro h; subst h; rfl
  · cases al; exact told0; exact told1 _
  · cases tw; exact told0; exact told1 _
  · cases tm; exact told0; exact told1 _
  · cases sc; exact told0; exact told1 _
  · cases al; exact told0; exact told1 _
  · cases al; exact told0; exact told1 _
end NeedTellsL
end Go.Proofs.Ythmakmmfbdmdfaa.Pure
