/- Scripts, walked: the law ScriptBack. -/
import Derived.Test.YthmakmmfbdmdfaaOwnSc8
set_option linter.unusedVariables false
set_option linter.unusedSimpArgs false
namespace Go.Proofs.Ythmakmmfbdmdfaa.OwnSc
open Go.RowKit Go.Proofs.Ythmakmmfbdmdfaa.PScriptBack Go.Proofs.YthmakmmfbdmdfaaW.PrintWords Go.Proofs.YthmakmmfbdmdfaaW.PrintLast Go.Proofs.YthmakmmfbdmdfaaW.PrintMore
attribute [local go_sem] max2_int min2_int max_two min_two max_three min_three max_four min_four

/-- what Put answers to a script that may be put is read back -/
theorem putF_ok {l : List S53} {L : List Int} (h : putF l = (L, 0)) (hx : ∀ x ∈ l, ∀ y ∈ x.f5.f2, 0 ≤ y ∧ y < 18446744073709551616) : l.length ≤ 256 ∧ (∀ x ∈ l, good x) ∧ L = encA l ∧ L.length ≤ 65536 := by
  simp only [putF] at h
  split at h
  · simp at h
  · rename_i h1
    split at h
    · simp at h
    · rename_i h2
      split at h
      · simp at h
      · rename_i h3
        have hg : ∀ x ∈ l, good x := fun x hm => by
          simp only [Bool.not_eq_true, List.any_eq_false] at h2 h3
          exact ⟨by simpa using h2 x hm, by simpa using h3 x hm, hx x hm⟩
        split at h
        · simp at h
        · rename_i o ho
          injection h with h4 _
          subst h4
          obtain ⟨k1, k2⟩ := putGo_some l [] o ho
          refine ⟨by omega, hg, by simpa using k1, ?_⟩
          cases l with
          | nil => rw [k1]; simp [encA]
          | cons x l => exact k2 (by simp)
theorem readF_enc {l : List S53} (hl : l.length ≤ 256) (hg : ∀ x ∈ l, good x) (h : (encA l).length ≤ 65536) : readF (encA l) = (l, 0) := by
  simp only [readF]
  rw [if_neg (by omega), readS_enc l _ hg (encA_len l)]
  simp only []
  rw [if_neg (by omega)]
/-- Put, whatever the script -/
theorem put_any (A : Option Addr) (c : Nat) (l : List S53) (w : World) (hr : Kd.C k53 w A l.length l) (hl : l.length ≤ 140737488351232) (hx : ∀ x ∈ l, ∀ y ∈ x.f5.f2, 0 ≤ y) :
    Calls Try.prog 28 #[.slice A l.length c] w fun e w' => ∃ v, e = .returned (.tuple #[v, .int .i64 (putF l).2]) ∧ Kd.R (Kd.int .u8) 5 w' w.heap.size (fun _ => True) v (putF l).1 ∧ Below w.heap.size w w' := by
  by_cases h : 256 < l.length ∨ l.any badS = true ∨ l.any badM = true
  · refine (put_err A c l w hr h hl).mono ?_
    rintro e w1 ⟨n, ⟨hp, _⟩, rfl, hB⟩
    rw [hp]
    exact ⟨_, rfl, Kd.R_nil .., hB⟩
  · have h1 : l.length ≤ 256 := by omega
    have h2 : l.any badS = false := by cases hb : l.any badS <;> simp_all
    have h3 : l.any badM = false := by cases hb : l.any badM <;> simp_all
    refine (put_ok A c l w hr h1 h2 h3 hx).mono ?_
    rintro e w1 ⟨v, L, n, hp, rfl, hR, hB⟩
    rw [hp]
    exact ⟨_, rfl, hR, hB⟩
theorem putF_err {l : List S53} {L : List Int} {n : Int} (h : putF l = (L, n)) (hn : n ≠ 0) : L = [] := by
  simp only [putF] at h
  repeat' split at h
  all_goals (simp at h; first | (exact h.1.symm) | (exact h.1) | (exfalso; omega))
theorem readF_err {b : List Int} {xs : List S53} {n : Int} (h : readF b = (xs, n)) (hn : n ≠ 0) : xs = [] := by
  simp only [readF] at h
  repeat' split at h
  all_goals (simp at h; first | (exact h.1.symm) | (exact h.1) | (exfalso; omega))
theorem readF_ok {b : List Int} {xs : List S53} (h : readF b = (xs, 0)) (ho : oct b) : putF xs = (b, 0) ∧ xs.length ≤ 256 ∧ (∀ x ∈ xs, good x) := by
  simp only [readF] at h
  split at h
  · simp at h
  · rename_i h1
    split at h
    · simp at h
    · rename_i ys hy
      split at h
      · simp at h
      · rename_i h2
        injection h with h3 _
        subst h3
        obtain ⟨hg, he⟩ := readS_dec b.length b ys (Nat.le_refl _) ho hy
        refine ⟨?_, by omega, hg⟩
        simp only [putF]
        rw [if_neg (by omega), if_neg (by simp; exact fun x hx => (hg x hx).1), if_neg (by simp; exact fun x hx => (hg x hx).2.1), putGo_ok ys [] (by simp [he]; omega)]
        simp [he]
end Go.Proofs.Ythmakmmfbdmdfaa.OwnSc
