/- Scripts: the plain law. No program in sight. -/
import Derived.Test.YthmakmmfbdmdfaaOwnSc6
set_option linter.unusedVariables false
set_option linter.unusedSimpArgs false
namespace Go.Proofs.Ythmakmmfbdmdfaa.OwnSc
open Go.RowKit Go.Proofs.Ythmakmmfbdmdfaa.PScriptBack Go.Proofs.YthmakmmfbdmdfaaW.PrintWords

/-- a step that may be put -/
def good (x : S53) : Prop := badS x = false ∧ badM x = false ∧ ∀ y ∈ x.f5.f2, 0 ≤ y ∧ y < 18446744073709551616

theorem encW_oct (x : Int) : oct (encW x) := by
  intro y hy
  simp only [encW, List.mem_cons, List.not_mem_nil, or_false] at hy
  rcases hy with rfl | rfl | rfl | rfl | rfl | rfl | rfl | rfl <;> omega
theorem decW_encW (x : Int) (h0 : 0 ≤ x) (h1 : x < 18446744073709551616) : decW (encW x) = x := by
  simp only [decW, encW, List.foldl_cons, List.foldl_nil]
  omega
theorem encWs_oct : ∀ l : List Int, oct (encWs l)
  | [] => by intro y hy; simp [encWs] at hy
  | x :: l => by
    intro y hy
    simp only [encWs, List.mem_append] at hy
    rcases hy with hy | hy
    · exact encW_oct x y hy
    · exact encWs_oct l y hy
theorem decWs_encWs : ∀ (l : List Int) (r : List Int), (∀ y ∈ l, 0 ≤ y ∧ y < 18446744073709551616) → decWs l.length (encWs l ++ r) = l
  | [], r, _ => rfl
  | x :: l, r, h => by
    have h1 := h x (by simp)
    have h2 : (encW x).length = 8 := rfl
    simp only [List.length_cons, decWs, encWs]
    rw [List.append_assoc, List.take_left' h2, List.drop_left' h2, decW_encW x h1.1 h1.2, decWs_encWs l r (fun y hy => h y (by simp [hy]))]
theorem encS_oct (x : S53) : oct (encS x) := by
  intro y hy
  simp only [encS, List.mem_append, List.mem_cons, List.not_mem_nil, or_false] at hy
  rcases hy with (rfl | rfl | rfl | rfl | rfl | rfl | rfl) | hy
  all_goals first | omega | exact encWs_oct _ y hy
theorem good_bd {x : S53} (h : good x) : (0 ≤ x.f0 ∧ x.f0 ≤ 255) ∧ (0 ≤ x.f1 ∧ x.f1 ≤ 255) ∧ (0 ≤ x.f2 ∧ x.f2 ≤ 255) ∧ (0 ≤ x.f3 ∧ x.f3 ≤ 255) ∧ (0 ≤ x.f4 ∧ x.f4 ≤ 255) ∧ (0 ≤ x.f5.f0 ∧ x.f5.f0 ≤ 64) ∧ (0 ≤ x.f5.f1 ∧ x.f5.f1 ≤ 64) ∧ (x.f5.f2.length : Int) = x.f5.f0 * x.f5.f1 := by
  obtain ⟨h1, h2, _⟩ := h
  simp [badS, badN] at h1
  simp [badM, okM] at h2
  omega
theorem encS_good {x : S53} (h : good x) : encS x = [x.f0, x.f1, x.f2, x.f3, x.f4, x.f5.f0, x.f5.f1] ++ encWs x.f5.f2 := by
  have hb := good_bd h
  simp only [encS]
  rw [Int.emod_eq_of_lt (by omega) (by omega), Int.emod_eq_of_lt (by omega) (by omega), Int.emod_eq_of_lt (by omega) (by omega), Int.emod_eq_of_lt (by omega) (by omega), Int.emod_eq_of_lt (by omega) (by omega), Int.emod_eq_of_lt (by omega) (by omega), Int.emod_eq_of_lt (by omega) (by omega)]
theorem mulN {a b : Int} {n : Nat} (ha : 0 ≤ a) (hb : 0 ≤ b) (h : (n : Int) = a * b) : a.toNat * b.toNat = n := by
  have h1 : ((a.toNat * b.toNat : Nat) : Int) = a * b := by simp [Int.toNat_of_nonneg ha, Int.toNat_of_nonneg hb]
  omega
theorem stepN_enc {x : S53} (h : good x) (r : List Int) : stepN (encS x ++ r) = (encS x).length := by
  have hb := good_bd h
  rw [encS_len, encS_good h]
  simp only [stepN, rd, List.cons_append, List.nil_append]
  have := mulN hb.2.2.2.2.2.1.1 hb.2.2.2.2.2.2.1.1 hb.2.2.2.2.2.2.2
  simp [this]
theorem decS_enc {x : S53} (h : good x) (r : List Int) : decS (encS x ++ r) = x := by
  have hb := good_bd h
  have hm := mulN hb.2.2.2.2.2.1.1 hb.2.2.2.2.2.2.1.1 hb.2.2.2.2.2.2.2
  simp only [decS]
  rw [stepN_enc h r, List.take_left' rfl, encS_good h]
  simp only [rd, List.cons_append, List.nil_append, List.drop_succ_cons, List.drop_zero]
  simp only [show (Int.toNat 0) = 0 from rfl, show (Int.toNat 1) = 1 from rfl, show (Int.toNat 2) = 2 from rfl, show (Int.toNat 3) = 3 from rfl, show (Int.toNat 4) = 4 from rfl, show (Int.toNat 5) = 5 from rfl, show (Int.toNat 6) = 6 from rfl, List.getD_cons_zero, List.getD_cons_succ]
  have := decWs_encWs x.f5.f2 [] h.2.2
  rw [List.append_nil] at this
  rw [hm, this]
theorem readS_step {x : S53} (h : good x) (r : List Int) (n : Nat) : readS (n + 1) (encS x ++ r) = (readS n r).map (x :: ·) := by
  have hb := good_bd h
  have hl := encS_len x
  have h5 : rd (encS x ++ r) 5 = x.f5.f0 := by rw [encS_good h]; rfl
  have h6 : rd (encS x ++ r) 6 = x.f5.f1 := by rw [encS_good h]; rfl
  simp only [readS]
  rw [if_neg (by rw [List.length_append]; omega), if_neg (by rw [h5, h6, List.length_append]; omega), stepN_enc h r, if_neg (by rw [List.length_append]; omega), decS_enc h r, List.drop_left' rfl]
/-- a script's octets -/
def encA : List S53 → List Int
  | [] => []
  | x :: l => encS x ++ encA l
theorem encA_oct : ∀ l : List S53, oct (encA l)
  | [] => by intro y hy; simp [encA] at hy
  | x :: l => by
    intro y hy
    simp only [encA, List.mem_append] at hy
    rcases hy with hy | hy
    · exact encS_oct x y hy
    · exact encA_oct l y hy
theorem readS_enc : ∀ (l : List S53) (n : Nat), (∀ x ∈ l, good x) → l.length ≤ n → readS n (encA l) = some l
  | [], 0, _, _ => rfl
  | [], n + 1, _, _ => by simp [encA, readS]
  | x :: l, 0, _, h => by simp at h
  | x :: l, n + 1, hg, h => by
    simp only [encA]
    rw [readS_step (hg x (by simp)) _ n, readS_enc l n (fun y hy => hg y (by simp [hy])) (by simpa using h)]
    rfl
theorem encA_len : ∀ l : List S53, l.length ≤ (encA l).length
  | [] => by simp [encA]
  | x :: l => by have := encA_len l; have := encS_len x; simp [encA]; omega
theorem putGo_some : ∀ (l : List S53) (o r : List Int), putGo o l = some r → r = o ++ encA l ∧ (l ≠ [] → r.length ≤ 65536)
  | [], o, r, h => by simp [putGo] at h; simp [encA, h]
  | x :: l, o, r, h => by
    simp only [putGo] at h
    split at h
    · cases h
    · rename_i hn
      obtain ⟨h1, h2⟩ := putGo_some l _ r h
      refine ⟨by rw [h1]; simp [encA], fun _ => ?_⟩
      cases l with
      | nil => rw [h1]; simp [encA]; simp at hn; omega
      | cons y l => exact h2 (by simp)
theorem putGo_ok : ∀ (l : List S53) (o : List Int), (o ++ encA l).length ≤ 65536 → putGo o l = some (o ++ encA l)
  | [], o, h => by simp [putGo, encA]
  | x :: l, o, h => by
    simp only [encA, ← List.append_assoc] at h
    simp only [putGo]
    rw [if_neg (by simp at h ⊢; omega), putGo_ok l _ h]
    simp [encA]
theorem eight {l : List Int} (h : l.length = 8) : ∃ a b c d e f g k, l = [a, b, c, d, e, f, g, k] := by
  match l, h with
  | [a, b, c, d, e, f, g, k], _ => exact ⟨a, b, c, d, e, f, g, k, rfl⟩
theorem encW_decW {l : List Int} (h : l.length = 8) (ho : oct l) : encW (decW l) = l ∧ 0 ≤ decW l ∧ decW l < 18446744073709551616 := by
  obtain ⟨a, b, c, d, e, f, g, k, rfl⟩ := eight h
  have h0 := ho a (by simp)
  have h1 := ho b (by simp)
  have h2 := ho c (by simp)
  have h3 := ho d (by simp)
  have h4 := ho e (by simp)
  have h5 := ho f (by simp)
  have h6 := ho g (by simp)
  have h7 := ho k (by simp)
  simp only [decW, encW, List.foldl_cons, List.foldl_nil]
  refine ⟨?_, by omega, by omega⟩
  congr 1
  · omega
  congr 1
  · omega
  congr 1
  · omega
  congr 1
  · omega
  congr 1
  · omega
  congr 1
  · omega
  congr 1
  · omega
  congr 1
  omega
theorem oct_take {l : List Int} (h : oct l) (n : Nat) : oct (l.take n) := fun x hx => h x (List.mem_of_mem_take hx)
theorem oct_drop {l : List Int} (h : oct l) (n : Nat) : oct (l.drop n) := fun x hx => h x (List.mem_of_mem_drop hx)
theorem encWs_decWs : ∀ (m : Nat) (l : List Int), l.length = 8 * m → oct l → encWs (decWs m l) = l ∧ (decWs m l).length = m ∧ ∀ y ∈ decWs m l, 0 ≤ y ∧ y < 18446744073709551616
  | 0, l, h, _ => by
    obtain rfl : l = [] := List.eq_nil_of_length_eq_zero (by omega)
    simp [decWs, encWs]
  | m + 1, l, h, ho => by
    obtain ⟨h1, h2, h3⟩ := encW_decW (l := l.take 8) (by rw [List.length_take]; omega) (oct_take ho 8)
    obtain ⟨k1, k2, k3⟩ := encWs_decWs m (l.drop 8) (by rw [List.length_drop]; omega) (oct_drop ho 8)
    simp only [decWs, encWs]
    refine ⟨by rw [h1, k1, List.take_append_drop], by simp [k2], ?_⟩
    intro y hy
    rcases List.mem_cons.1 hy with rfl | hy
    · exact ⟨h2, h3⟩
    · exact k3 y hy
theorem seven {b : List Int} (h : 7 ≤ b.length) : b.take 7 = [rd b 0, rd b 1, rd b 2, rd b 3, rd b 4, rd b 5, rd b 6] := by
  match b, h with
  | a0 :: a1 :: a2 :: a3 :: a4 :: a5 :: a6 :: t, _ => rfl
theorem enc_decS {b : List Int} (h7 : 7 ≤ b.length) (ho : oct b) (h5 : rd b 5 ≤ 64) (h6 : rd b 6 ≤ 64) (hn : stepN b ≤ b.length) : good (decS b) ∧ encS (decS b) = b.take (stepN b) := by
  have o0 : 0 ≤ rd b 0 ∧ rd b 0 < 256 := oct_rd ho 0
  have o1 : 0 ≤ rd b 1 ∧ rd b 1 < 256 := oct_rd ho 1
  have o2 : 0 ≤ rd b 2 ∧ rd b 2 < 256 := oct_rd ho 2
  have o3 : 0 ≤ rd b 3 ∧ rd b 3 < 256 := oct_rd ho 3
  have o4 : 0 ≤ rd b 4 ∧ rd b 4 < 256 := oct_rd ho 4
  have o5 : 0 ≤ rd b 5 ∧ rd b 5 < 256 := oct_rd ho 5
  have o6 : 0 ≤ rd b 6 ∧ rd b 6 < 256 := oct_rd ho 6
  obtain ⟨k1, k2, k3⟩ := encWs_decWs ((rd b 5).toNat * (rd b 6).toNat) ((b.take (stepN b)).drop 7) (by rw [List.length_drop, List.length_take, Nat.min_eq_left hn, stepN]; omega) (oct_drop (oct_take ho _) _)
  have hg : good (decS b) := by
    refine ⟨?_, ?_, k3⟩
    · simp [badS, badN, decS]; omega
    · have hm : ((decWs ((rd b 5).toNat * (rd b 6).toNat) ((b.take (stepN b)).drop 7)).length : Int) = rd b 5 * rd b 6 := by
        rw [k2]; simp [Int.toNat_of_nonneg o5.1, Int.toNat_of_nonneg o6.1]
      simp only [badM, okM, decS, hm]
      simp [o5.1, o6.1, h5, h6]
  refine ⟨hg, ?_⟩
  rw [encS_good hg]
  show [rd b 0, rd b 1, rd b 2, rd b 3, rd b 4, rd b 5, rd b 6] ++ encWs (decWs ((rd b 5).toNat * (rd b 6).toNat) ((b.take (stepN b)).drop 7)) = _
  rw [k1, ← seven h7, show b.take 7 = (b.take (stepN b)).take 7 by rw [List.take_take, Nat.min_eq_left (by simp [stepN])], List.take_append_drop]
theorem readS_dec : ∀ (n : Nat) (b : List Int) (xs : List S53), b.length ≤ n → oct b → readS n b = some xs → (∀ x ∈ xs, good x) ∧ encA xs = b
  | 0, b, xs, hn, _, h => by
    obtain rfl : b = [] := List.eq_nil_of_length_eq_zero (by omega)
    simp [readS] at h
    subst h
    exact ⟨by simp, rfl⟩
  | n + 1, b, xs, hn, ho, h => by
    simp only [readS] at h
    split at h
    · rename_i h0
      injection h with h
      subst h
      obtain rfl : b = [] := List.eq_nil_of_length_eq_zero h0
      exact ⟨by simp, rfl⟩
    · split at h
      · cases h
      · rename_i h0 h1
        split at h
        · cases h
        · rename_i h2
          obtain ⟨ys, hy, rfl⟩ := Option.map_eq_some_iff.1 h
          have hs : 7 ≤ stepN b := by simp [stepN]
          obtain ⟨g1, g2⟩ := enc_decS (b := b) (by omega) ho (by omega) (by omega) (by omega)
          obtain ⟨k1, k2⟩ := readS_dec n (b.drop (stepN b)) ys (by rw [List.length_drop]; omega) (oct_drop ho _) hy
          refine ⟨?_, by simp only [encA]; rw [g2, k2, List.take_append_drop]⟩
          intro x hx
          rcases List.mem_cons.1 hx with rfl | hx
          · exact g1
          · exact k1 x hx
/-- does a step end at n (or is n 0)? -/
def atEnd : List S53 → Nat → Bool
  | _, 0 => true
  | [], _ + 1 => false
  | x :: l, n + 1 => if n + 1 < (encS x).length then false else atEnd l (n + 1 - (encS x).length)
theorem rd_take {b : List Int} {n i : Nat} (h : i < n) : rd (b.take n) i = rd b i := by
  simp [rd, List.getD_eq_getElem?_getD, List.getElem?_take, h]
theorem readS_cut : ∀ (l : List S53) (at' n : Nat), (∀ x ∈ l, good x) → at' ≤ (encA l).length → at' ≤ n → (atEnd l at' = true → ∃ xs, readS n ((encA l).take at') = some xs ∧ xs.length ≤ l.length) ∧ (atEnd l at' = false → readS n ((encA l).take at') = none)
  | l, 0, n, hg, ha, hn => by
    refine ⟨fun _ => ⟨[], ?_, by simp⟩, fun h => by cases l <;> simp [atEnd] at h⟩
    cases n <;> simp [readS]
  | [], m + 1, n, hg, ha, hn => by simp [encA] at ha
  | x :: l, m + 1, n, hg, ha, hn => by
    obtain ⟨n, rfl⟩ : ∃ k, n = k + 1 := ⟨n - 1, by omega⟩
    have hgx := hg x (by simp)
    have hb := good_bd hgx
    have hl := encS_len x
    simp only [atEnd, encA]
    simp only [encA, List.length_append] at ha
    by_cases hc : m + 1 < (encS x).length
    · rw [if_pos hc]
      refine ⟨fun h => (by cases h), fun _ => ?_⟩
      rw [List.take_append_of_le_length (by omega)]
      have hlt : ((encS x).take (m + 1)).length = m + 1 := by rw [List.length_take]; omega
      simp only [readS]
      rw [if_neg (by omega), hlt]
      by_cases h7 : m + 1 < 7
      · rw [if_pos (.inl h7)]
      · have h5 : rd ((encS x).take (m + 1)) 5 = rd (encS x) 5 := rd_take (i := 5) (by omega)
        have h6 : rd ((encS x).take (m + 1)) 6 = rd (encS x) 6 := rd_take (i := 6) (by omega)
        have e5 : rd (encS x) 5 = x.f5.f0 := by rw [encS_good hgx]; rfl
        have e6 : rd (encS x) 6 = x.f5.f1 := by rw [encS_good hgx]; rfl
        have hs : stepN ((encS x).take (m + 1)) = (encS x).length := by
          have := stepN_enc hgx []
          rw [List.append_nil] at this
          rw [← this]; simp only [stepN, h5, h6]
        rw [if_neg (by rw [h5, h6, e5, e6]; omega), hs, if_pos hc]
    · rw [if_neg hc]
      obtain ⟨k1, k2⟩ := readS_cut l (m + 1 - (encS x).length) n (fun y hy => hg y (by simp [hy])) (by omega) (by omega)
      have ht : (encS x ++ encA l).take (m + 1) = encS x ++ (encA l).take (m + 1 - (encS x).length) := by
        rw [List.take_append, List.take_of_length_le (by omega)]
      rw [ht, readS_step hgx _ n]
      refine ⟨fun h => ?_, fun h => by rw [k2 h]; rfl⟩
      obtain ⟨xs, h1, h2⟩ := k1 h
      exact ⟨x :: xs, by rw [h1]; rfl, by simpa using h2⟩
end Go.Proofs.Ythmakmmfbdmdfaa.OwnSc
