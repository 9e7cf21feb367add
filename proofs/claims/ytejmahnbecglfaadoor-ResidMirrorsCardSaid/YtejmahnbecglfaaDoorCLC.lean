/- Parts of the proof, joined: The comparison, turned. The comparison of numbers without sign, turned. The comparison of numbers without sign, turned: the law. The comparison of numbers without sign, turned: the end. The comparison of numbers without sign, turned: both greatest numbers agree. -/
import Derived.Test.YtejmahnbecglfaaDoorCLA
import Derived.Test.YtejmahnbecglfaaDoorCLB
section
set_option linter.unusedVariables false
set_option linter.unusedSimpArgs false
namespace Go.Proofs.YtejmahnbecglfaaDoor.Den
open Go
open Go.Proofs.YtejmahnbecglfaaDoor.OwnA
open Go.Proofs.YtejmahnbecglfaaDoorW.PrintWords (rd)
theorem sizeF_all0 (l : List Int) : ∀ n, (∀ i : Nat, i < n → rd l i = 0) → sizeF l n = 0
  | 0, _ => rfl
  | n + 1, h => by rw [sizeF, if_pos (h n (by omega))]; exact sizeF_all0 l n (fun i hi => h i (by omega))
theorem sizeF_0all (l : List Int) : ∀ n, sizeF l n = 0 → ∀ i : Nat, i < n → rd l i = 0
  | 0, _, i, hi => by omega
  | n + 1, h, i, hi => by
    rw [sizeF] at h
    split at h
    · rename_i h0
      by_cases e : i = n
      · rw [e]; exact h0
      · exact sizeF_0all l n h i (by omega)
    · omega
theorem ordF_swap (x y : Int) (h : x ≠ y) : ordF (decide (x < y)) < 0 ↔ 0 < ordF (decide (y < x)) := by
  unfold ordF
  by_cases h1 : x < y
  · have h2 : ¬ y < x := by omega
    simp [h1, h2]
  · have h2 : y < x := by omega
    simp [h1, h2]
theorem cmpGo_swap (a b : List Int) : ∀ n, cmpGo a b n < 0 ↔ 0 < cmpGo b a n
  | 0 => by simp [cmpGo]
  | n + 1 => by
    rw [cmpGo, cmpGo]
    by_cases h : rd a n = rd b n
    · rw [if_pos h, if_pos h.symm]; exact cmpGo_swap a b n
    · rw [if_neg h, if_neg (fun e => h e.symm)]; exact ordF_swap _ _ h
theorem cmpF_swap (a b : List Int) : cmpF a b < 0 ↔ 0 < cmpF b a := by
  unfold cmpF
  by_cases h : sizeF a a.length = sizeF b b.length
  · rw [if_pos h, if_pos h.symm, h]; exact cmpGo_swap a b _
  · rw [if_neg h, if_neg (fun e => h e.symm)]
    unfold ordF
    by_cases h1 : sizeF a a.length < sizeF b b.length
    · have h2 : ¬ sizeF b b.length < sizeF a a.length := by omega
      simp [h1, h2]
    · have h2 : sizeF b b.length < sizeF a a.length := by omega
      simp [h1, h2]
theorem subL_zero (a b : List Int) (ha : ∀ i : Nat, 0 ≤ rd a i ∧ rd a i < 18446744073709551616) (hb : u64s b) : ∀ (n i : Nat), (∀ y ∈ subL a b i n 0, y = 0) → ∀ j : Nat, i ≤ j → j < i + n → rd a j = atF b j
  | 0, i, _, j, h1, h2 => by omega
  | n + 1, i, h, j, h1, h2 => by
    rw [subL] at h
    have h0 := h _ (List.mem_cons_self ..)
    have hx := ha i
    have hy := atF_bd hb i
    have he : rd a i = atF b i := by omega
    by_cases e : j = i
    · rw [e]; exact he
    · refine subL_zero a b ha hb n (i + 1) (fun y hy' => ?_) j (by omega) (by omega)
      have hbor : borF (rd a i) (atF b i + 0) = 0 := by unfold borF; rw [if_neg (by omega)]
      rw [hbor] at h
      exact h y (List.mem_cons_of_mem _ hy')
end Go.Proofs.YtejmahnbecglfaaDoor.Den
end
section
set_option linter.unusedVariables false
set_option linter.unusedSimpArgs false
namespace Go.Proofs.YtejmahnbecglfaaDoor.Den
open Go
open Go.Proofs.YtejmahnbecglfaaDoor.OwnA
open Go.Proofs.YtejmahnbecglfaaDoorW.PrintWords (rd)
theorem sizeF_congr (a b : List Int) : ∀ n, (∀ i : Nat, i < n → rd a i = rd b i) → sizeF a n = sizeF b n
  | 0, _ => rfl
  | n + 1, h => by
    rw [sizeF, sizeF, h n (by omega), sizeF_congr a b n (fun i hi => h i (by omega))]
theorem sizeF_top' (l : List Int) : ∀ n, sizeF l (sizeF l n) = sizeF l n
  | 0 => rfl
  | n + 1 => by
    rw [sizeF]
    split
    · exact sizeF_top' l n
    · rename_i h; rw [sizeF, if_neg h]
theorem normF_size (l : List Int) : (normF l).length = sizeF l l.length := by
  unfold normF
  rw [List.length_take]
  have := sizeF_le l l.length
  omega
theorem normF_rd (l : List Int) (i : Nat) (h : i < sizeF l l.length) : rd (normF l) i = rd l i := rd_take h
theorem normF_sizeF (l : List Int) : sizeF (normF l) (normF l).length = sizeF l l.length := by
  rw [normF_size, sizeF_congr (normF l) l _ (fun i hi => normF_rd l i hi)]
  exact sizeF_top' l _
theorem cmpGo_congr (a b a' b' : List Int) : ∀ n, (∀ i : Nat, i < n → rd a i = rd a' i ∧ rd b i = rd b' i) → cmpGo a b n = cmpGo a' b' n
  | 0, _ => rfl
  | n + 1, h => by
    have h0 := h n (by omega)
    rw [cmpGo, cmpGo, h0.1, h0.2, cmpGo_congr a b a' b' n (fun i hi => h i (by omega))]
theorem cmpF_norm (a b : List Int) : cmpF a (normF b) = cmpF a b := by
  unfold cmpF
  rw [normF_sizeF]
  by_cases h : sizeF a a.length = sizeF b b.length
  · rw [if_pos h, if_pos h]
    exact cmpGo_congr _ _ _ _ _ fun i hi => ⟨rfl, normF_rd b i (by omega)⟩
  · rw [if_neg h, if_neg h]
end Go.Proofs.YtejmahnbecglfaaDoor.Den
end
section
set_option linter.unusedVariables false
set_option linter.unusedSimpArgs false
namespace Go.Proofs.YtejmahnbecglfaaDoor.Den
open Go
open Go.Proofs.YtejmahnbecglfaaDoor.OwnA
open Go.Proofs.YtejmahnbecglfaaDoorW.PrintWords (rd)
theorem u64_rd {l : List Int} (h : u64s l) (i : Nat) : 0 ≤ rd l i ∧ rd l i < 18446744073709551616 := by
  unfold Go.Proofs.YtejmahnbecglfaaDoorW.PrintWords.rd
  rw [Int.toNat_natCast, List.getD_eq_getElem?_getD]
  cases hg : l[i]? with
  | none => simp
  | some y => exact h y (List.mem_of_getElem? hg)
theorem sizeF_above (l : List Int) : ∀ n (i : Nat), sizeF l n ≤ i → i < n → rd l i = 0
  | 0, i, _, h => by omega
  | n + 1, i, h, hi => by
    rw [sizeF] at h
    split at h
    · rename_i h0
      by_cases e : i = n
      · rw [e]; exact h0
      · exact sizeF_above l n i h (by omega)
    · omega
theorem atF_above {l : List Int} {i : Nat} (h : sizeF l l.length ≤ i) : atF l i = 0 := by
  unfold atF
  split
  · exact sizeF_above l _ i h (by assumption)
  · rfl
theorem subG_pos {a b : List Int} (ua : u64s a) (ub : u64s b) (h : 0 < cmpF a b) : sizeF (subG a b) (subG a b).length ≠ 0 := by
  intro hz
  unfold subG at hz
  rw [normF_sizeF] at hz
  have hall := sizeF_0all _ _ hz
  have hmem : ∀ y ∈ subL a b 0 a.length 0, y = 0 := by
    intro y hy
    obtain ⟨i, hi, rfl⟩ := List.mem_iff_getElem.1 hy
    have := hall i hi
    unfold Go.Proofs.YtejmahnbecglfaaDoorW.PrintWords.rd at this
    rw [Int.toNat_natCast, List.getD_eq_getElem?_getD, List.getElem?_eq_getElem hi] at this
    exact this
  have heq := subL_zero a b (u64_rd ua) ub a.length 0 hmem
  unfold cmpF at h
  have hsa := sizeF_le a a.length
  have hsb := sizeF_le b b.length
  by_cases hs : sizeF a a.length = sizeF b b.length
  · rw [if_pos hs, cmpGo_all] at h
    · omega
    · intro j hj
      rw [heq j (by omega) (by omega)]
      unfold atF
      rw [if_pos (by omega)]
  · rw [if_neg hs] at h
    have hlt : sizeF b b.length < sizeF a a.length := by
      by_cases hx : sizeF a a.length < sizeF b b.length
      · simp [ordF, hx] at h
      · omega
    have ht := sizeF_top a a.length (sizeF a a.length - 1) (by omega)
    rw [heq _ (by omega) (by omega), atF_above (by omega)] at ht
    exact ht rfl
end Go.Proofs.YtejmahnbecglfaaDoor.Den
end
section
set_option linter.unusedVariables false
set_option linter.unusedSimpArgs false
namespace Go.Proofs.YtejmahnbecglfaaDoor.Den
open Go
open Go.Proofs.YtejmahnbecglfaaDoor.OwnA
open Go.Proofs.YtejmahnbecglfaaDoorW.PrintWords (rd)
/-- the comparison of two numbers' limbs -/
def cmpW (X Y : List Int) : Int := signF (whAddN false X (mdN true Y) (normF Y)) (whAddL false X (mdN true Y) (normF Y))
theorem signF_norm (n : Bool) (l : List Int) : signF n (normF l) = signF n l := by unfold signF; rw [normF_sizeF]
theorem signF_pos (n : Bool) (l : List Int) : 0 < signF n l ↔ sizeF l l.length ≠ 0 ∧ n = false := by
  unfold signF
  split
  · simp_all
  · cases n <;> simp_all
theorem signF_neg (n : Bool) (l : List Int) : signF n l < 0 ↔ sizeF l l.length ≠ 0 ∧ n = true := by
  unfold signF
  split
  · simp_all
  · cases n <;> simp_all
theorem atF_nil (i : Nat) : atF [] i = 0 := by unfold atF; rw [if_neg (by simp)]
theorem rd_cons0 (x : Int) (l : List Int) : rd (x :: l) ((0 : Nat) : Int) = x := rfl
theorem rd_consS (x : Int) (l : List Int) (i : Nat) : rd (x :: l) ((i + 1 : Nat) : Int) = rd l i := by
  unfold Go.Proofs.YtejmahnbecglfaaDoorW.PrintWords.rd
  rw [Int.toNat_natCast, Int.toNat_natCast, List.getD_cons_succ]
theorem addL_nil {a : List Int} (ha : u64s a) : ∀ (n i j : Nat), j < n → rd (addL a [] i n 0) j = atF a (i + j)
  | 0, i, j, h => by omega
  | n + 1, i, j, h => by
    have hx := atF_bd ha i
    have e1 : (atF a i + atF [] i + 0) % 18446744073709551616 = atF a i := by rw [atF_nil]; omega
    have e2 : (atF a i + atF [] i + 0) / 18446744073709551616 = 0 := by rw [atF_nil]; omega
    rw [addL, e1, e2]
    cases j with
    | zero => rw [rd_cons0, Nat.add_zero]
    | succ j => rw [rd_consS, addL_nil ha n (i + 1) j (by omega)]; congr 1; omega
theorem addF_nil_size {a : List Int} (ha : u64s a) : sizeF (addF a []) (addF a []).length = 0 ↔ sizeF a a.length = 0 := by
  unfold addF
  rw [normF_sizeF, addL_len]
  constructor
  · intro h
    refine sizeF_all0 _ _ fun i hi => ?_
    have := sizeF_0all _ _ h i (by omega)
    rw [addL_nil ha _ _ _ (by omega), Nat.zero_add] at this
    unfold atF at this
    rw [if_pos hi] at this
    exact this
  · intro h
    refine sizeF_all0 _ _ fun i hi => ?_
    rw [addL_nil ha _ _ _ hi, Nat.zero_add]
    exact atF_above (by omega)
theorem cmpGo_0 (a b : List Int) : ∀ n, cmpGo a b n = 0 → ∀ i : Nat, i < n → rd a i = rd b i
  | 0, _, i, hi => by omega
  | n + 1, h, i, hi => by
    rw [cmpGo] at h
    split at h
    · rename_i h0
      by_cases e : i = n
      · rw [e]; exact h0
      · exact cmpGo_0 a b n h i (by omega)
    · unfold ordF at h
      split at h <;> omega
theorem subL_0 (a b : List Int) : ∀ (n i : Nat), (∀ j : Nat, i ≤ j → j < i + n → rd a j = atF b j) → ∀ y ∈ subL a b i n 0, y = 0
  | 0, i, _, y, hy => by simp [subL] at hy
  | n + 1, i, h, y, hy => by
    have h0 := h i (by omega) (by omega)
    have hbor : borF (rd a i) (atF b i + 0) = 0 := by unfold borF; rw [if_neg (by omega)]
    rw [subL, hbor] at hy
    rcases List.mem_cons.1 hy with rfl | hy
    · rw [h0]; omega
    · exact subL_0 a b n (i + 1) (fun j h1 h2 => h j (by omega) (by omega)) y hy
theorem subG_0 {a b : List Int} (h : cmpF a b = 0) : sizeF (subG a b) (subG a b).length = 0 := by
  unfold cmpF at h
  by_cases hs : sizeF a a.length = sizeF b b.length
  · rw [if_pos hs] at h
    have hsa := sizeF_le a a.length
    have hsb := sizeF_le b b.length
    unfold subG
    rw [normF_sizeF]
    refine sizeF_all0 _ _ fun i hi => ?_
    have := subL_0 a b a.length 0 (fun j h1 h2 => ?_) ((subL a b 0 a.length 0)[i]'hi) (List.getElem_mem hi)
    · unfold Go.Proofs.YtejmahnbecglfaaDoorW.PrintWords.rd
      rw [Int.toNat_natCast, List.getD_eq_getElem?_getD, List.getElem?_eq_getElem hi]
      exact this
    · by_cases hj : j < sizeF a a.length
      · rw [cmpGo_0 a b _ h j hj]
        unfold atF
        rw [if_pos (by omega)]
      · rw [sizeF_above a a.length j (by omega) (by omega), atF_above (by omega)]
  · rw [if_neg hs] at h
    unfold ordF at h
    split at h <;> omega
end Go.Proofs.YtejmahnbecglfaaDoor.Den
end
section
set_option linter.unusedVariables false
set_option linter.unusedSimpArgs false
namespace Go.Proofs.YtejmahnbecglfaaDoor.Den
open Go
open Go.Proofs.YtejmahnbecglfaaDoor.OwnA
open Go.Proofs.YtejmahnbecglfaaDoorW.PrintWords (rd)
theorem cmpF_swap' (a b : List Int) : 0 < cmpF a b ↔ cmpF b a < 0 := (cmpF_swap b a).symm
theorem cmpF_norm' (a b : List Int) : cmpF (normF b) a < 0 ↔ cmpF b a < 0 := by
  rw [cmpF_swap, cmpF_swap, cmpF_norm]
theorem cmpF_empty {a b : List Int} (h : sizeF b b.length = 0) : ¬ cmpF a b < 0 ∧ (0 < cmpF a b ↔ sizeF a a.length ≠ 0) := by
  unfold cmpF
  rw [h]
  by_cases h0 : sizeF a a.length = 0
  · rw [if_pos h0, h0]; simp [cmpGo]
  · rw [if_neg h0]; simp [ordF, h0]
theorem mdN_true (l : List Int) : mdN true l = decide (sizeF l l.length ≠ 0) := by
  unfold mdN
  rw [normF_size, Bool.true_and]
  by_cases h : sizeF l l.length = 0
  · simp [h]
  · simp [h]; omega
theorem cmpW_sign {X Y : List Int} (hX : u64s X) (hY : u64s Y) : (cmpW X Y < 0 ↔ cmpF X Y < 0) ∧ (0 < cmpW X Y ↔ 0 < cmpF X Y) := by
  unfold cmpW
  by_cases hy : sizeF Y Y.length = 0
  · have hm : mdN true Y = false := by rw [mdN_true]; simp [hy]
    have hn : normF Y = [] := List.eq_nil_of_length_eq_zero (by rw [normF_size]; exact hy)
    obtain ⟨g1, g2⟩ := cmpF_empty (a := X) hy
    have ha := addF_nil_size hX
    rw [hm, hn]
    unfold whAddN whAddL
    rw [if_pos rfl, if_pos rfl, signF_norm, signF_neg, signF_pos]
    refine ⟨⟨fun h => ?_, fun h => absurd h g1⟩, ?_⟩
    · have := h.2
      simp [mdN] at this
    · rw [g2, ne_eq, ha]
      constructor
      · exact fun h => h.1
      · exact fun h => ⟨h, by simp [mdN]⟩
  · have hm : mdN true Y = true := by rw [mdN_true]; simp [hy]
    rw [hm]
    unfold whAddN whAddL
    simp only [Bool.false_eq_true, if_false]
    rw [signF_norm, signF_neg, signF_pos, cmpF_norm]
    have uN : u64s (normF Y) := normF_u64 hY
    by_cases h1 : cmpF X Y < 0
    · have hs : sizeF (subF X (normF Y)) (subF X (normF Y)).length ≠ 0 := by
        unfold subF
        rw [if_pos (by rw [cmpF_norm]; exact h1)]
        exact subG_pos uN hX (by rw [← cmpF_swap, cmpF_norm]; exact h1)
      rw [if_pos h1, mdN_true]
      have h2 : ¬ 0 < cmpF X Y := by omega
      simp [h1, h2, hs]
    · rw [if_neg h1]
      have hsub : subF X (normF Y) = subG X (normF Y) := by unfold subF; rw [if_neg (by rw [cmpF_norm]; exact h1)]
      rw [hsub]
      by_cases h2 : 0 < cmpF X Y
      · have hs := subG_pos hX uN (by rw [cmpF_norm]; exact h2)
        simp [h1, h2, hs, mdN]
      · have hs := subG_0 (a := X) (b := normF Y) (by rw [cmpF_norm]; omega)
        simp [h1, h2, hs, mdN]
theorem cmpW_swap {X Y : List Int} (hX : u64s X) (hY : u64s Y) : 0 < cmpW X Y ↔ cmpW Y X < 0 := by
  rw [(cmpW_sign hX hY).2, (cmpW_sign hY hX).1]
  exact cmpF_swap' X Y
theorem lev_swap (x y : Int) : lev x y = lev y x := by unfold lev; split <;> split <;> omega
theorem cmpN_swap {a b : Num} (ha : GN a) (hb : GN b) (na : a.n = false) (nb : b.n = false) : 0 < cmpN a b ↔ cmpN b a < 0 := by
  have h := lx_ok ha hb
  unfold cmpN cmpD
  rw [na, nb]
  have e1 : lx b.l b.x a.x = ly b.l a.x b.x := by unfold lx ly; rw [lev_swap]
  have e2 : ly a.l b.x a.x = lx a.l a.x b.x := by unfold lx ly; rw [lev_swap]
  rw [e1, e2]
  exact cmpW_swap h.1.2 h.2.2.1.2
theorem absN_n (a : Num) : (absN a).n = false := by
  unfold absN numD toldF
  split
  · rfl
  · split <;> rfl
theorem mostP_n {b : Num} (h : b.n = false) (x : Num) : (mostP b x).n = false := by
  unfold mostP
  split
  · exact absN_n x
  · exact h
theorem most_eq {b x : Num} (hb : GN b) (hx : GN x) (nb : b.n = false) : mostP b x = mostL b x := by
  unfold mostP mostL
  have := cmpN_swap (GN_abs hx) hb (absN_n x) nb
  by_cases h : 0 < cmpN (absN x) b
  · rw [if_pos h, if_pos (this.1 h)]
  · rw [if_neg h, if_neg (fun e => h (this.2 e))]
theorem fold_n {M : List Num} : ∀ b : Num, b.n = false → (M.foldl mostP b).n = false := by
  induction M with
  | nil => exact fun b h => h
  | cons x M ih => exact fun b h => ih _ (mostP_n h x)
theorem fold_eq {M : List Num} (hM : ∀ a ∈ M, GN a) : ∀ b : Num, GN b → b.n = false → M.foldl mostP b = M.foldl mostL b := by
  induction M with
  | nil => exact fun _ _ _ => rfl
  | cons x M ih =>
    intro b hb nb
    rw [List.foldl_cons, List.foldl_cons, ← most_eq hb (hM x (List.mem_cons_self ..)) nb]
    exact ih (fun a ha => hM a (List.mem_cons_of_mem _ ha)) _ (GN_mostP hb (hM x (List.mem_cons_self ..))) (mostP_n nb x)
theorem far_fold (M H : List Num) (hh : M.length = H.length) : ∀ n, n ≤ M.length → farU M H n = ((List.zipWith subN M H).take n).foldl mostL zN
  | 0, _ => rfl
  | n + 1, h => by
    have hz : n < (List.zipWith subN M H).length := by rw [List.length_zipWith]; omega
    rw [List.take_add_one, List.getElem?_eq_getElem hz, List.foldl_append, ← far_fold M H hh n (by omega)]
    rw [List.getElem_zipWith, farU, List.getD_eq_getElem?_getD, List.getD_eq_getElem?_getD, List.getElem?_eq_getElem (show n < M.length by omega), List.getElem?_eq_getElem (show n < H.length by omega)]
    rfl
/-- WHAT THE PROGRAM TELLS IS WHAT THE LAW SAYS. -/
theorem far_eq {M H : List Num} (hM : ∀ a ∈ M, GN a) (hH : ∀ a ∈ H, GN a) (hh : M.length = H.length) : (List.zipWith subN M H).foldl mostP zN = farU M H M.length := by
  have gZ : ∀ x ∈ List.zipWith subN M H, GN x := by
    intro x hx
    rw [List.mem_iff_getElem] at hx
    obtain ⟨i, hi, rfl⟩ := hx
    rw [List.getElem_zipWith]
    exact GN_sub (hM _ (List.getElem_mem _)) (hH _ (List.getElem_mem _))
  rw [fold_eq gZ _ GN0 rfl, far_fold M H hh _ (Nat.le_refl _), List.take_of_length_le (by rw [List.length_zipWith]; omega)]
end Go.Proofs.YtejmahnbecglfaaDoor.Den
end
