/- A great region that draws and only reads: the check of its order, cut into pieces (the kernel's memory). No program in sight. -/
import Derived.Deep.QuietTactic
import Derived.BigQuiet
set_option linter.unusedVariables false
set_option linter.unusedSimpArgs false
namespace Go.Proofs.Ythmakmmfbdmdfaa.OwnLex
open Go

/-- the first k are done -/
def doneTo (N k : Nat) : Array Bool := ((List.range N).map fun j => decide (j < k)).toArray
theorem doneTo_zero (N : Nat) : doneTo N 0 = Array.replicate N false := by
  apply Array.ext_getElem?
  intro i
  by_cases h : i < N
  · simp [doneTo, Array.getElem?_replicate, h]
  · simp [doneTo, Array.getElem?_replicate, h, List.getElem?_eq_none (show (List.range N).length ≤ i by simp; omega)]
theorem doneTo_succ (N k : Nat) : (doneTo N k).setIfInBounds k true = doneTo N (k + 1) := by
  apply Array.ext_getElem?
  intro i
  by_cases h : i < N
  · by_cases hi : i = k
    · subst hi
      simp [doneTo, Array.getElem?_setIfInBounds, h]
    · simp [doneTo, Array.getElem?_setIfInBounds, h, Ne.symm hi]
      omega
  · have h1 : (doneTo N k).size ≤ i := by simp [doneTo]; omega
    have h2 : (doneTo N (k + 1)).size ≤ i := by simp [doneTo]; omega
    rw [Array.getElem?_eq_none h2, Array.getElem?_eq_none (by simpa using h1)]
/-- operation k may be taken behind the first k -/
def chk (md : Region.Mode) (ops : Array Oper) (N k : Nat) : Bool := (Region.ready md ops (doneTo N k)).contains k && Region.free md ops (doneTo N k) k
theorem lexFrom_of {md : Region.Mode} {ops : Array Oper} {N : Nat} (hl : (Region.ready md ops (doneTo N N)).isEmpty = true) : ∀ (d k : Nat), k + d = N → (∀ j, k ≤ j → j < N → chk md ops N j = true) → Region.lexFrom md ops d k (doneTo N k) = true
  | 0, k, h, _ => by
    obtain rfl : k = N := by omega
    exact hl
  | d + 1, k, h, hc => by
    have h1 := hc k (Nat.le_refl _) (by omega)
    simp only [Region.lexFrom]
    simp only [chk] at h1
    rw [h1, doneTo_succ, lexFrom_of hl d (k + 1) (by omega) (fun j hj hj2 => hc j (by omega) hj2)]
    rfl
theorem lexB_of {md : Region.Mode} {ops : Array Oper} {N : Nat} (hs : ops.size = N) (hn : Region.noSelect ops = true) (hl : (Region.ready md ops (doneTo N N)).isEmpty = true) (hc : ∀ j, j < N → chk md ops N j = true) : Region.lexB md ops = true := by
  unfold Region.lexB
  rw [hn, hs, ← doneTo_zero, lexFrom_of hl N 0 (by omega) (fun j _ hj => hc j hj)]
  rfl
theorem all_cut {p : Nat → Prop} {N : Nat} (a : Nat) (h1 : ∀ j, j < a → p j) (h2 : (∀ j, a ≤ j → j < N → p j)) : ∀ j, j < N → p j := fun j hj => by
  by_cases h : j < a
  · exact h1 j h
  · exact h2 j (by omega) hj
theorem range_cut {f : Nat → Bool} {a N : Nat} (n : Nat) (h1 : (List.range' a n).all f = true) (h2 : ∀ j, a + n ≤ j → j < N → f j = true) : ∀ j, a ≤ j → j < N → f j = true := fun j ha hj => by
  by_cases h : j < a + n
  · rw [List.all_eq_true] at h1
    exact h1 j (by rw [List.mem_range']; exact ⟨j - a, by omega, by omega⟩)
  · exact h2 j (by omega) hj
theorem range_end {f : Nat → Bool} {a N : Nat} (n : Nat) (hN : a + n = N) (h1 : (List.range' a n).all f = true) : ∀ j, a ≤ j → j < N → f j = true :=
  range_cut n h1 (fun j h1 h2 => by omega)
end Go.Proofs.Ythmakmmfbdmdfaa.OwnLex
