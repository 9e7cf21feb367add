/- Parts of the proof, joined: The comparison, turned. The comparison of numbers without sign, turned. The comparison of numbers without sign, turned: the law. The comparison of numbers without sign, turned: the end. The comparison of numbers without sign, turned: both greatest numbers agree. -/
import Derived.Test.YtmbdbkcifmkpbaaGreatDoorCLA
import Derived.Test.YtmbdbkcifmkpbaaGreatDoorCLB
section
set_option linter.unusedVariables false
set_option linter.unusedSimpArgs false
namespace Go.Proofs.YtmbdbkcifmkpbaaGreatDoor.Den
open Go
open Go.Proofs.YtmbdbkcifmkpbaaGreatDoor.OwnA
open Go.Proofs.YtmbdbkcifmkpbaaGreatDoorW.PrintWords (rd)
end Go.Proofs.YtmbdbkcifmkpbaaGreatDoor.Den
end
section
set_option linter.unusedVariables false
set_option linter.unusedSimpArgs false
namespace Go.Proofs.YtmbdbkcifmkpbaaGreatDoor.Den
open Go
open Go.Proofs.YtmbdbkcifmkpbaaGreatDoor.OwnA
open Go.Proofs.YtmbdbkcifmkpbaaGreatDoorW.PrintWords (rd)
theorem sizeF_congr (a b : List Int) : ∀ n, (∀ i : Nat, i < n → rd a i = rd b i) → sizeF a n = sizeF b n
  | 0, _ => rfl
  | n + 1, h => by
    rw [sizeF, sizeF, h n (by omega), sizeF_congr a b n (fun i hi => h i (by omega))]
theorem sizeF_top' (l : List Int) : ∀ n, sizeF l (sizeF l n) = sizeF l n
  | 0 => rfl
  | n + 1 => by
    rw [sizeF]
    split
    · exact sizeF_top' l n
    · rename_i h; rw [sizeF, if_neg h]
theorem normF_size (l : List Int) : (normF l).length = sizeF l l.length := by
  unfold normF
  rw [List.length_take]
  have := sizeF_le l l.length
  omega
theorem normF_rd (l : List Int) (i : Nat) (h : i < sizeF l l.length) : rd (normF l) i = rd l i := rd_take h
theorem normF_sizeF (l : List Int) : sizeF (normF l) (normF l).length = sizeF l l.length := by
  rw [normF_size, sizeF_congr (normF l) l _ (fun i hi => normF_rd l i hi)]
  exact sizeF_top' l _
theorem cmpGo_congr (a b a' b' : List Int) : ∀ n, (∀ i : Nat, i < n → rd a i = rd a' i ∧ rd b i = rd b' i) → cmpGo a b n = cmpGo a' b' n
  | 0, _ => rfl
  | n + 1, h => by
    have h0 := h n (by omega)
    rw [cmpGo, cmpGo, h0.1, h0.2, cmpGo_congr a b a' b' n (fun i hi => h i (by omega))]
theorem cmpF_norm (a b : List Int) : cmpF a (normF b) = cmpF a b := by
  unfold cmpF
  rw [normF_sizeF]
  by_cases h : sizeF a a.length = sizeF b b.length
  · rw [if_pos h, if_pos h]
    exact cmpGo_congr _ _ _ _ _ fun i hi => ⟨rfl, normF_rd b i (by omega)⟩
  · rw [if_neg h, if_neg h]
end Go.Proofs.YtmbdbkcifmkpbaaGreatDoor.Den
end
section
set_option linter.unusedVariables false
set_option linter.unusedSimpArgs false
namespace Go.Proofs.YtmbdbkcifmkpbaaGreatDoor.Den
open Go
open Go.Proofs.YtmbdbkcifmkpbaaGreatDoor.OwnA
open Go.Proofs.YtmbdbkcifmkpbaaGreatDoorW.PrintWords (rd)
theorem u64_rd {l : List Int} (h : u64s l) (i : Nat) : 0 ≤ rd l i ∧ rd l i < 18446744073709551616 := by
  unfold Go.Proofs.YtmbdbkcifmkpbaaGreatDoorW.PrintWords.rd
  rw [Int.toNat_natCast, List.getD_eq_getElem?_getD]
  cases hg : l[i]? with
  | none => simp
  | some y => exact h y (List.mem_of_getElem? hg)
end Go.Proofs.YtmbdbkcifmkpbaaGreatDoor.Den
end
section
set_option linter.unusedVariables false
set_option linter.unusedSimpArgs false
namespace Go.Proofs.YtmbdbkcifmkpbaaGreatDoor.Den
open Go
open Go.Proofs.YtmbdbkcifmkpbaaGreatDoor.OwnA
open Go.Proofs.YtmbdbkcifmkpbaaGreatDoorW.PrintWords (rd)
theorem rd_cons0 (x : Int) (l : List Int) : rd (x :: l) ((0 : Nat) : Int) = x := rfl
theorem rd_consS (x : Int) (l : List Int) (i : Nat) : rd (x :: l) ((i + 1 : Nat) : Int) = rd l i := by
  unfold Go.Proofs.YtmbdbkcifmkpbaaGreatDoorW.PrintWords.rd
  rw [Int.toNat_natCast, Int.toNat_natCast, List.getD_cons_succ]
end Go.Proofs.YtmbdbkcifmkpbaaGreatDoor.Den
end
section
set_option linter.unusedVariables false
set_option linter.unusedSimpArgs false
namespace Go.Proofs.YtmbdbkcifmkpbaaGreatDoor.Den
open Go
open Go.Proofs.YtmbdbkcifmkpbaaGreatDoor.OwnA
open Go.Proofs.YtmbdbkcifmkpbaaGreatDoorW.PrintWords (rd)
theorem mdN_true (l : List Int) : mdN true l = decide (sizeF l l.length ≠ 0) := by
  unfold mdN
  rw [normF_size, Bool.true_and]
  by_cases h : sizeF l l.length = 0
  · simp [h]
  · simp [h]; omega
end Go.Proofs.YtmbdbkcifmkpbaaGreatDoor.Den
end
