/- Digits of 16 bits: what a list of them is worth; plain facts, without the program. -/
import Derived.Test.YthmakmmfbdmdfaaWMore
set_option linter.unusedVariables false
set_option linter.unusedSimpArgs false
namespace Go.Proofs.Ythmakmmfbdmdfaa.OwnDig
open Go.RowKit Go.Proofs.YthmakmmfbdmdfaaW.PrintWords Go.Proofs.YthmakmmfbdmdfaaW.PrintLast Go.Proofs.YthmakmmfbdmdfaaW.PrintMore

def val : List Int → Int
  | [] => 0
  | x :: l => x + 65536 * val l
def dig (l : List Int) : Prop := ∀ x ∈ l, 0 ≤ x ∧ x < 65536
def cutFrom (l : List Int) : Nat → Nat
  | 0 => 0
  | n + 1 => if rd l n = 0 then cutFrom l n else n + 1
/-- none is 0 at the end -/
def top (l : List Int) : Prop := ∀ n, l.length = n + 1 → rd l n ≠ 0

theorem rd_cons (x : Int) (l : List Int) (i : Nat) : rd (x :: l) ((i + 1 : Nat) : Int) = rd l i := by simp [rd]
theorem rd_zero (x : Int) (l : List Int) : rd (x :: l) ((0 : Nat) : Int) = x := by simp [rd]
theorem rd_nat (l : List Int) (i : Nat) : rd l (i : Int) = l.getD i 0 := by simp [rd]
theorem rd_mem {l : List Int} {i : Nat} (h : i < l.length) : rd l i ∈ l := by
  rw [rd_nat, List.getD_eq_getElem?_getD, List.getElem?_eq_getElem h]; exact List.getElem_mem h
theorem dig_rd {l : List Int} (h : dig l) (i : Nat) : 0 ≤ rd l i ∧ rd l i < 65536 := by
  by_cases hi : i < l.length
  · exact h _ (rd_mem hi)
  · rw [rd_nat, List.getD_eq_getElem?_getD, List.getElem?_eq_none (by omega)]; simp
theorem pw_pos (n : Nat) : (0 : Int) < 65536 ^ n := Int.pow_pos (by omega)
theorem val_bd : ∀ {l : List Int}, dig l → 0 ≤ val l ∧ val l < 65536 ^ l.length := by
  intro l
  induction l with
  | nil => intro _; simp [val]
  | cons x l ih =>
    intro h
    have hx := h x (by simp)
    have hl := ih (fun y hy => h y (by simp [hy]))
    simp only [val, List.length_cons, Int.pow_succ]
    omega
theorem val_append (l m : List Int) : val (l ++ m) = val l + 65536 ^ l.length * val m := by
  induction l with
  | nil => simp [val]
  | cons x l ih => simp only [List.cons_append, val, ih, List.length_cons, Int.pow_succ]; grind
theorem val_set : ∀ (l : List Int) (i : Nat) (x : Int), i < l.length → val (l.set i x) = val l + (x - rd l i) * 65536 ^ i := by
  intro l
  induction l with
  | nil => intro i x h; simp at h
  | cons y l ih =>
    intro i x h
    cases i with
    | zero => simp only [List.set_cons_zero, val, rd_zero, Int.pow_zero]; omega
    | succ i =>
      simp only [List.set_cons_succ, val, rd_cons, Int.pow_succ]
      rw [ih i x (by simpa using h)]
      grind
theorem val_zeros (n : Nat) : val (List.replicate n 0) = 0 := by
  induction n with
  | zero => rfl
  | succ n ih => simp [List.replicate_succ, val, ih]
theorem dig_zeros (n : Nat) : dig (List.replicate n 0) := fun x hx => by rw [List.eq_of_mem_replicate hx]; omega
theorem dig_set {l : List Int} (h : dig l) (i : Nat) {x : Int} (h0 : 0 ≤ x) (h1 : x < 65536) : dig (l.set i x) := by
  intro y hy
  rcases List.mem_or_eq_of_mem_set hy with hy | rfl
  · exact h y hy
  · exact ⟨h0, h1⟩
theorem dig_append {l m : List Int} (h : dig l) (h' : dig m) : dig (l ++ m) := fun x hx => by
  rcases List.mem_append.1 hx with hx | hx
  · exact h x hx
  · exact h' x hx
theorem dig_take {l : List Int} (h : dig l) (n : Nat) : dig (l.take n) := fun x hx => h x (List.mem_of_mem_take hx)
theorem rd_set_same {l : List Int} {i : Nat} (x : Int) (h : i < l.length) : rd (l.set i x) i = x := by
  rw [rd_nat, List.getD_eq_getElem?_getD, List.getElem?_set_self h]; rfl
theorem rd_set_other {l : List Int} {i j : Nat} (x : Int) (h : i ≠ j) : rd (l.set i x) j = rd l j := by
  rw [rd_nat, rd_nat, List.getD_eq_getElem?_getD, List.getD_eq_getElem?_getD, List.getElem?_set_ne h]
theorem rd_zeros (n i : Nat) : rd (List.replicate n 0) i = 0 := by
  rw [rd_nat, List.getD_eq_getElem?_getD, List.getElem?_replicate]; split <;> rfl
theorem take_succ_val {l : List Int} {i : Nat} (h : i < l.length) : val (l.take (i + 1)) = val (l.take i) + rd l i * 65536 ^ i := by
  have e : l.take (i + 1) = l.take i ++ [rd l i] := by
    rw [List.take_succ_eq_append_getElem h]; congr 1
    rw [rd_nat, List.getD_eq_getElem?_getD, List.getElem?_eq_getElem h]; rfl
  rw [e, val_append, List.length_take, Nat.min_eq_left (by omega)]
  simp only [val]; grind
theorem cut_le (l : List Int) : ∀ n, cutFrom l n ≤ n
  | 0 => Nat.le_refl _
  | n + 1 => by
    unfold cutFrom
    split
    · have := cut_le l n; omega
    · omega
theorem cut_val (l : List Int) : ∀ n, n ≤ l.length → val (l.take (cutFrom l n)) = val (l.take n)
  | 0, _ => rfl
  | n + 1, h => by
    unfold cutFrom
    split
    · rename_i hz
      rw [cut_val l n (by omega), take_succ_val (by omega), hz]; omega
    · rfl
theorem rd_take {l : List Int} {n i : Nat} (h : i < n) : rd (l.take n) i = rd l i := by
  rw [rd_nat, rd_nat, List.getD_eq_getElem?_getD, List.getD_eq_getElem?_getD, List.getElem?_take_of_lt h]
theorem cut_top (l : List Int) : ∀ n, n ≤ l.length → top (l.take (cutFrom l n))
  | 0, _ => fun n h => by simp [cutFrom] at h
  | n + 1, h => by
    unfold cutFrom
    split
    · exact cut_top l n (by omega)
    · rename_i hz
      intro m hm
      rw [List.length_take, Nat.min_eq_left (by omega)] at hm
      obtain rfl : m = n := by omega
      rw [rd_take (by omega)]; exact hz
theorem val_len {l : List Int} (h : dig l) (ht : top l) (n : Nat) (hn : l.length = n + 1) : 65536 ^ n ≤ val l := by
  have e : l.take (n + 1) = l := by rw [List.take_of_length_le (by omega)]
  have hv := take_succ_val (l := l) (i := n) (by omega)
  rw [e] at hv
  have h1 := (val_bd (dig_take h n)).1
  have h2 := ht n hn
  have h3 := dig_rd h n
  have h4 := Int.mul_le_mul_of_nonneg_right (a := 1) (b := rd l n) (show 1 ≤ rd l n by omega) (Int.le_of_lt (pw_pos n))
  omega
theorem pw_mono {a b : Nat} (h : a ≤ b) : (65536 : Int) ^ a ≤ 65536 ^ b := by
  obtain ⟨c, rfl⟩ := Nat.le.dest h
  rw [Int.pow_add]
  have h0 := pw_pos c
  have h1 := Int.mul_le_mul_of_nonneg_left (a := 1) (b := (65536 : Int) ^ c) (c := 65536 ^ a) (by omega) (Int.le_of_lt (pw_pos a))
  omega
/-- the longer one is greater -/
theorem val_lt_of_len {l m : List Int} (hl : dig l) (hm : dig m) (ht : top m) (h : l.length < m.length) : val l < val m := by
  obtain ⟨n, hn⟩ : ∃ n, m.length = n + 1 := ⟨m.length - 1, by omega⟩
  have h1 := (val_bd hl).2
  have h2 := val_len hm ht n hn
  have h3 := pw_mono (a := l.length) (b := n) (by omega)
  omega
theorem take_lt {l m : List Int} (hl : dig l) (hm : dig m) {i : Nat} (h1 : i < l.length) (h2 : i < m.length) (h : rd l i < rd m i) : val (l.take (i + 1)) < val (m.take (i + 1)) := by
  rw [take_succ_val h1, take_succ_val h2]
  have a := (val_bd (dig_take hl i)).2
  rw [List.length_take, Nat.min_eq_left (by omega)] at a
  have b := (val_bd (dig_take hm i)).1
  have c := Int.mul_le_mul_of_nonneg_right (a := rd l i + 1) (b := rd m i) (by omega) (Int.le_of_lt (pw_pos i))
  rw [Int.add_mul, Int.one_mul] at c
  omega
/-- -1, 0, 1 -/
def sgn (x y : Int) : Int := if x < y then -1 else if x > y then 1 else 0
theorem sgn_lt {x y : Int} (h : x < y) : sgn x y = -1 := by unfold sgn; rw [if_pos h]
theorem sgn_gt {x y : Int} (h : y < x) : sgn x y = 1 := by unfold sgn; rw [if_neg (by omega), if_pos h]
theorem sgn_eq {x y : Int} (h : x = y) : sgn x y = 0 := by unfold sgn; rw [if_neg (by omega), if_neg (by omega)]
/-- where a round of the product by one digit stands -/
def St (l : List Int) (p : Int) (i : Nat) (L : List Int) (k : Nat) (c : Int) : Prop :=
  dig L ∧ L.length = l.length + 2 ∧
  ((k = 0 ∧ c = 0 ∧ val L = val (l.take i) * p ∧ ∀ j : Nat, i < j → rd L j = 0) ∨
   (k = 1 ∧ val L + c * 65536 ^ (i + 1) = val (l.take (i + 1)) * p ∧ ∀ j : Nat, i < j → rd L j = 0) ∨
   (k = 2 ∧ c = 0 ∧ val L = val (l.take (i + 1)) * p ∧ ∀ j : Nat, i + 1 < j → rd L j = 0))
theorem prod_bd {l : List Int} {p : Int} (hd : dig l) (h0 : 1 ≤ p) (h1 : p ≤ 32768) (i : Nat) : 0 ≤ rd l i * p ∧ rd l i * p ≤ 2147450880 := by
  have h := dig_rd hd i
  have a := Int.mul_nonneg h.1 (show 0 ≤ p by omega)
  have b := Int.mul_le_mul (show rd l i ≤ 65535 by omega) h1 (by omega) (by omega)
  omega
theorem St_one {l : List Int} {p : Int} {i : Nat} {L : List Int} (hd : dig l) (h0 : 1 ≤ p) (h1 : p ≤ 32768) (hi : i < l.length) (h : St l p i L 0 0) :
    St l p i (L.set i ((rd L i + rd l i * p) % 65536)) 1 ((rd L i + rd l i * p) / 65536) := by
  obtain ⟨hL, hn, h | h | h⟩ := h
  · obtain ⟨_, _, hv, hz⟩ := h
    refine ⟨dig_set hL _ (by omega) (by omega), by rw [List.length_set]; exact hn, .inr (.inl ⟨rfl, ?_, fun j hj => ?_⟩)⟩
    · rw [val_set _ _ _ (by omega), hv, take_succ_val hi, Int.pow_succ]
      have e : rd L i + rd l i * p = 65536 * ((rd L i + rd l i * p) / 65536) + (rd L i + rd l i * p) % 65536 := by omega
      generalize (rd L i + rd l i * p) / 65536 = a at *
      generalize (rd L i + rd l i * p) % 65536 = b at *
      have e2 : b = rd L i + rd l i * p - 65536 * a := by omega
      rw [e2]
      grind
    · rw [rd_set_other _ (by omega)]; exact hz j hj
  · omega
  · omega
theorem St_two {l : List Int} {p : Int} {i : Nat} {L : List Int} {c : Int} (hi : i < l.length) (hc0 : 0 ≤ c) (hc1 : c ≤ 32768) (h : St l p i L 1 c) :
    rd L ((i + 1 : Nat) : Int) = 0 ∧ St l p i (L.set (i + 1) c) 2 0 := by
  obtain ⟨hL, hn, h | h | h⟩ := h
  · omega
  · obtain ⟨_, hv, hz⟩ := h
    have hy := hz (i + 1) (by omega)
    refine ⟨hy, dig_set hL _ hc0 (by omega), by rw [List.length_set]; exact hn, .inr (.inr ⟨rfl, rfl, ?_, fun j hj => ?_⟩)⟩
    · rw [val_set _ _ _ (by omega), hy, ← hv, Int.sub_zero]
    · rw [rd_set_other _ (by omega)]; exact hz j (by omega)
  · omega
theorem St_end {l : List Int} {p : Int} {i : Nat} {L : List Int} {k : Nat} (hk : k = 1 ∨ k = 2) (h : St l p i L k 0) : St l p (i + 1) L 0 0 := by
  obtain ⟨hL, hn, h | h | h⟩ := h
  · omega
  · obtain ⟨_, hv, hz⟩ := h
    exact ⟨hL, hn, .inl ⟨rfl, rfl, by omega, fun j hj => hz j (by omega)⟩⟩
  · obtain ⟨_, _, hv, hz⟩ := h
    exact ⟨hL, hn, .inl ⟨rfl, rfl, by omega, fun j hj => hz j (by omega)⟩⟩
theorem St_start (l : List Int) (p : Int) : St l p 0 (List.replicate (l.length + 2) 0) 0 0 :=
  ⟨dig_zeros _, by simp, .inl ⟨rfl, rfl, by rw [val_zeros]; simp [val], fun j _ => rd_zeros _ _⟩⟩
theorem St_done {l : List Int} {p : Int} {L : List Int} (h : St l p l.length L 0 0) : dig L ∧ L.length = l.length + 2 ∧ val L = val l * p := by
  obtain ⟨hL, hn, h | h | h⟩ := h
  · obtain ⟨_, _, hv, _⟩ := h
    rw [List.take_of_length_le (Nat.le_refl _)] at hv
    exact ⟨hL, hn, hv⟩
  · omega
  · omega
theorem St_c0 {l : List Int} {p : Int} {i : Nat} {L : List Int} {c : Int} (h : St l p i L 0 c) : c = 0 := by
  obtain ⟨_, _, h | h | h⟩ := h <;> omega
theorem St_c2 {l : List Int} {p : Int} {i : Nat} {L : List Int} {c : Int} (h : St l p i L 2 c) : c = 0 := by
  obtain ⟨_, _, h | h | h⟩ := h <;> omega
theorem St_dig {l : List Int} {p : Int} {i k : Nat} {L : List Int} {c : Int} (h : St l p i L k c) : dig L := h.1
theorem St_len {l : List Int} {p : Int} {i k : Nat} {L : List Int} {c : Int} (h : St l p i L k c) : L.length = l.length + 2 := h.2.1
end Go.Proofs.Ythmakmmfbdmdfaa.OwnDig
