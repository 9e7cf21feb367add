/- A number against itself; how great a matrix is; shapes that may not be; bounds' values. -/
import Derived.Test.YtmbdbkcifmkpbaaGreatDoorCM7
import Derived.Test.YtmbdbkcifmkpbaaGreatDoorCLE

set_option linter.unusedVariables false
set_option linter.unusedSimpArgs false
namespace Go.Proofs.YtmbdbkcifmkpbaaGreatDoor.Den
open Go
open Go.Proofs.YtmbdbkcifmkpbaaGreatDoor.OwnA (u64s normF toldF addF subF shlF signF cmpF sizeF sideB sideB_iff fits finF)
set_option maxRecDepth 10000
set_option maxHeartbeats 8000000
attribute [local simp] Ok_true Br_true Br_false rtV exec_none exec_some opV dstB dstW upd_nil upd_cons upd1_at args0_zero args0_succ args0_nil ev cellsV isDead notSelf allCell cellB shrL shr ownsL owns ownE elems frz noLst noLstL outV_ret outV_norm retV resL resV tupV nmL nm boolV isBoolV isSkV binV unV fillV chunk sizesB sizeV List.mapIdx_cons List.mapIdx_nil List.mapIdx List.mapIdx.go List.range List.range.loop List.map_cons List.map_nil Option.isSome_some Option.isSome_none Option.getD_some Option.map_some Option.bind_some Option.map_none Option.bind_none List.append_nil List.nil_append List.cons_append List.isEmpty_nil List.isEmpty_cons Bool.and_true Bool.true_and Bool.and_false Bool.false_and Bool.or_true Bool.or_false Bool.true_or Bool.false_or Bool.not_true Bool.not_false List.length_cons List.length_nil List.take List.drop List.getD_cons_zero List.getD_cons_succ List.getElem?_cons_zero List.getElem?_cons_succ List.replicate List.flatten Wp_skip Wp_exit Wp_ret Wp_kil Wp_reg Wp_dfr Wi_nil Wi_cons Wp_seq Wp_cond Wp_block seqQ_norm seqQ_exit seqQ_ret blkQ_norm blkQ_exit blkQ_ret nrQ_norm nrQ_exit nrQ_ret lpQ_norm lpQ_exit lpQ_ret outQ_norm outQ_ret rgQ_at kilR kil1 kil kilL sets List.set_cons_zero List.set_cons_succ kilR0 frzd isFz ren renL frV frQ_norm frQ_ret retFr shrF shrFL arrV1
attribute [local simp] wrap_id
theorem cmpGo_self (k : List Int) : ∀ n, OwnA.cmpGo k k n = 0
  | 0 => rfl
  | n + 1 => by rw [OwnA.cmpGo, if_pos rfl, cmpGo_self k n]
theorem cmpF_self (k : List Int) : cmpF k k = 0 := by unfold OwnA.cmpF; rw [if_pos rfl, cmpGo_self]
theorem cmp_self {a : Num} (ha : GN a) : cmpN a a = 0 := by
  obtain ⟨n, l, x⟩ := a
  have hl := lev_le x x
  have ok : okS (shlF l (x - lev x x)) := okS_shl ha (by omega)
  show signF (whAddN n (shlF l (x - lev x x)) (mdN (!n) (shlF l (x - lev x x))) (normF (shlF l (x - lev x x)))) (whAddL n (shlF l (x - lev x x)) (mdN (!n) (shlF l (x - lev x x))) (normF (shlF l (x - lev x x)))) = 0
  obtain ⟨K, hK⟩ : ∃ K, shlF l (x - lev x x) = K := ⟨_, rfl⟩
  rw [hK] at ok ⊢
  have un := OwnA.normF_u64 ok.2
  have ln := OwnA.normF_len K
  have key : val (whAddL n K (mdN (!n) K) (normF K)) = 0 ∧ u64s (whAddL n K (mdN (!n) K) (normF K)) := by
    unfold whAddL
    rw [val_norm]
    by_cases e : n = mdN (!n) K
    · rw [if_pos e]
      refine ⟨?_, OwnA.normF_u64 (addF_ok _ _)⟩
      rw [val_add ok.2 un, val_norm]
      have hz : (normF K).length = 0 := by
        cases n with
        | true => rw [Bool.not_true, mdN_false] at e; cases e
        | false =>
          rw [Bool.not_false, mdN_true] at e
          rw [normF_size]
          simpa using e.symm
      have := val_norm K
      rw [List.eq_nil_of_length_eq_zero hz] at this
      rw [← this]; rfl
    · rw [if_neg e]
      refine ⟨?_, OwnA.normF_u64 (subF_ok _ _)⟩
      unfold OwnA.subF
      have hc : cmpF K (normF K) = 0 := by rw [cmpF_norm]; exact cmpF_self K
      rw [if_neg (by omega), val_subG ok.2 un ln (by rw [val_norm]; omega), val_norm]
      omega
  unfold OwnA.signF
  rw [if_pos ((size_zero key.2).2 key.1)]
theorem map_int_inj : ∀ {l m : List Int}, l.map (V.int .u64) = m.map (V.int .u64) → l = m
  | [], [], _ => rfl
  | [], _ :: _, h => by simp at h
  | _ :: _, [], h => by simp at h
  | a :: l, b :: m, h => by
    rw [List.map_cons, List.map_cons] at h
    injection h with h1 h2
    injection h1 with _ h1
    rw [h1, map_int_inj h2]
theorem encN_inj {a b : Num} (h : encN a = encN b) : a = b := by
  unfold encN enc at h
  injection h with h
  injection h with h1 h
  injection h with h2 h
  injection h with h3 _
  injection h1 with h1
  injection h2 with h2
  injection h3 with _ h3
  obtain ⟨n, l, x⟩ := a
  obtain ⟨n', l', x'⟩ := b
  simp only at h1 h2 h3
  have : l = l' := map_int_inj h2
  rw [h1, this, h3]
theorem ofW_bd (a : Int) : u64s (ofW a).l ∧ (ofW a).l.length ≤ 1024 ∧ -2200 ≤ (ofW a).x ∧ (ofW a).x ≤ 2100 ∧ val (ofW a).l < 18446744073709551616 := by
  obtain ⟨n, m, x, e, h, h0, h1, h2, h3⟩ := d59 a
  obtain ⟨e', hD⟩ := ofW_D a
  by_cases he : e = 0
  · subst he
    have hg : Gd [m] x := ⟨fun y hy => by simp only [List.mem_cons, List.not_mem_nil, or_false] at hy; subst hy; exact ⟨h0, h1⟩, by simp, by omega, by omega⟩
    have h4 := d55 n [m] x hg
    have hv : D E 52 [.int .u64 a] = some (.tup [encN (numD (toldF n [m] x)), .int .i64 (toldF n [m] x).e]) := by
      refine wpE (F := ir52) (by kernel_rfl) (by kernel_rfl) ?_
      unfold encN numD
      unfold enc at *
      simp at h4
      simp [ir52, h, h4]
    rw [hv] at hD
    have hD := Option.some.inj hD
    injection hD with hD
    injection hD with hD _
    rw [← encN_inj hD]
    by_cases hz : val [m] = 0
    · rw [told_zero n x hg.u hz]
      exact ⟨fun y hy => by simp [numD] at hy, by simp [numD], by simp [numD], by simp [numD], by simp [numD, val]⟩
    · obtain ⟨k, q, t, a1, a2, a3, a4, a5⟩ := told_spec n x hg.u (by simp) hz
      rw [a5]
      by_cases hc : OwnA.checkF t (x + k) = 0
      · rw [if_pos hc]
        have pk := p2 k
        simp only [val] at a1
        have hq : 1 ≤ 2 * q + 1 := by
          rcases Int.lt_or_le (2 * q + 1) 1 with e | e
          · have : 2 ^ k * (2 * q + 1) ≤ 2 ^ k * 0 := Int.mul_le_mul_of_nonneg_left (by omega) (Int.le_of_lt pk)
            simp only [val] at hz
            omega
          · exact e
        have hk : k < 64 := by
          refine p2_lt ?_
          have e64 : (2 : Int) ^ 64 = 18446744073709551616 := by rfl
          have : (2 : Int) ^ k * 1 ≤ 2 ^ k * (2 * q + 1) := Int.mul_le_mul_of_nonneg_left hq (Int.le_of_lt pk)
          omega
        have hv2 : 2 * q + 1 ≤ 2 ^ k * (2 * q + 1) := by
          have := Int.mul_le_mul_of_nonneg_right (show (1 : Int) ≤ 2 ^ k by omega) (show (0 : Int) ≤ 2 * q + 1 by omega)
          omega
        unfold OwnA.checkF at hc
        split at hc
        · omega
        · exact ⟨a2, by show t.length ≤ 1024; omega, by show -2200 ≤ x + (k : Int); omega, by show x + (k : Int) ≤ 2100; omega, by show val t < _; omega⟩
      · rw [if_neg hc]
        exact ⟨fun y hy => by simp [numD] at hy, by simp [numD], by simp [numD], by simp [numD], by simp [numD, val]⟩
  · have hv : D E 52 [.int .u64 a] = some (.tup [encN zN, .int .i64 e]) := by
      refine wpE (F := ir52) (by kernel_rfl) (by kernel_rfl) ?_
      unfold encN enc zN
      simp [ir52, h, he]
    rw [hv] at hD
    have hD := Option.some.inj hD
    injection hD with hD
    injection hD with hD _
    rw [← encN_inj hD]
    exact ⟨fun y hy => by simp [zN] at hy, by simp [zN], by simp [zN], by simp [zN], by simp [zN, val]⟩
theorem abs_IV (a : Int) : IV (-2200) 2200 (absN (ofW a)) := by
  obtain ⟨h1, h2, h3, h4, h5⟩ := ofW_bd a
  refine (told_IV h1 (by omega) (by omega) (by omega) (by omega) (by omega) (by omega) (by omega) ?_).1
  have := pw_le (show 64 ≤ (2200 - (ofW a).x).toNat by omega)
  have e64 : (2 : Int) ^ 64 = 18446744073709551616 := by rfl
  omega
theorem mx_IV : ∀ (l : List Int) (b : Num), IV (-2200) 2200 b → IV (-2200) 2200 ((l.map ofW).foldl mostP b)
  | [], b, h => h
  | a :: l, b, h => by
    rw [List.map_cons, List.foldl_cons]
    refine mx_IV l _ ?_
    unfold mostP
    split
    · exact abs_IV a
    · exact h
theorem p39 (m : Mt) (h : u64s m.l) (hl : m.l.length ≤ 100000) : ∃ p e, D E 39 [encM m] = some (.tup [encN p, .int .i64 e]) ∧ IV (-2200) 2200 p := by
  have h7 := c7 m h hl
  by_cases hz : finM m = 0
  · rw [if_pos hz] at h7
    exact ⟨_, _, h7, mx_IV _ _ (IV_zero (by omega) (by omega))⟩
  · rw [if_neg hz] at h7
    exact ⟨_, _, h7, IV_zero (by omega) (by omega)⟩
/-! halves -/
theorem hSt_u64 {l : List Int} (hl : u64s l) {c : Nat} {u n : Bool} {i j : Nat} {A : List Int} (hA : u64s A) : u64s (hSt l c u n i j A) := by
  unfold hSt
  split
  · exact OwnA.u64s_set hA _ (by omega) (by omega)
  · split
    · have : 0 ≤ l.getD (i * c + j) 0 ∧ l.getD (i * c + j) 0 < 18446744073709551616 := by
        have := u64_rd hl (i * c + j)
        rw [rd_get] at this
        exact this
      exact OwnA.u64s_set hA _ this.1 this.2
    · exact hA
theorem hR_u64 {l : List Int} (hl : u64s l) {c : Nat} {u n : Bool} {i : Nat} {A : List Int} (hA : u64s A) : ∀ j, u64s (hR l c u n i A j)
  | 0 => hA
  | j + 1 => hSt_u64 hl (hR_u64 hl hA j)
theorem hA_u64 {l : List Int} (hl : u64s l) {r c : Nat} {u n : Bool} : ∀ i, u64s (hA l r c u n i)
  | 0 => OwnA.u64s_zeros _
  | i + 1 => hR_u64 hl (hA_u64 hl i) _
theorem loL_u64 {m n : Nat} {l : List Int} (h : u64s l) : u64s (loL m n l) := hA_u64 h _
theorem upL_u64 {n : Nat} {l : List Int} (h : u64s l) : u64s (upL n l) := hA_u64 (OwnA.u64s_take h _) _
theorem d25b (m : Mt) (h : fits m.r m.c m.l.length = false) : D E 25 [encM m] = some (.int .i64 11) := by
  refine wpE (F := ir25) (by kernel_rfl) (by kernel_rfl) ?_
  obtain ⟨r, c, l⟩ := m
  have h1 := c66 r
  have h2 := c66 c
  unfold OwnA.fits at h
  simp only at h
  unfold encM mat
  cases hr : sideB r with
  | false => rw [hr] at h1; simp [ir25, h1]
  | true =>
    cases hc : sideB c with
    | false => rw [hr] at h1; rw [hc] at h2; simp [ir25, h1, h2]
    | true =>
      rw [hr] at h1 h
      rw [hc] at h2 h
      have b1 := sideB_iff.1 hr
      have b2 := sideB_iff.1 hc
      have h3 : ¬ (l.length : Int) = r * c := by simpa using h
      have hb : r * c ≤ 64 * 64 := Int.mul_le_mul b1.2 b2.2 (by omega) (by omega)
      have hb0 : 0 ≤ r * c := Int.mul_nonneg (by omega) (by omega)
      have hw : IntKind.i64.wrap (r * c) = r * c := wrap_id (by omega) (by omega)
      simp [ir25, h1, h2, hw, h3]
theorem d10b (m : Mt) (u n : Bool) (h : fits m.r m.c m.l.length = false) : D E 10 [encM m, .bool u, .bool n] = some (.tup [encM ⟨0, 0, []⟩, .int .i64 11]) := by
  refine wpE (F := ir10) (by kernel_rfl) (by kernel_rfl) ?_
  have h1 := d25b m h
  unfold encM mat at *
  simp [ir10, h1]
theorem d20b (m : Mt) (h : fits m.r m.c m.l.length = false ∨ m.r < m.c) : D E 20 [encM m] = some (.tup [encM ⟨0, 0, []⟩, encM ⟨0, 0, []⟩, .int .i64 11]) := by
  refine wpE (F := ir20) (by kernel_rfl) (by kernel_rfl) ?_
  cases hf : fits m.r m.c m.l.length with
  | false =>
    have h1 := d25b m hf
    unfold encM mat at *
    simp [ir20, h1]
  | true =>
    have h2 : m.r < m.c := by rcases h with h | h; rw [hf] at h; cases h; exact h
    unfold OwnA.fits at hf
    rw [Bool.and_eq_true, Bool.and_eq_true, sideB_iff, sideB_iff, decide_eq_true_iff] at hf
    obtain ⟨b1, b2, b3⟩ := hf
    obtain ⟨r, c, l⟩ := m
    simp only at b1 b2 b3 h2
    obtain ⟨r', rfl⟩ := Int.eq_ofNat_of_zero_le (show 0 ≤ r by omega)
    obtain ⟨c', rfl⟩ := Int.eq_ofNat_of_zero_le (show 0 ≤ c by omega)
    have b4 : (l.length : Int) = ((r' * c' : Nat) : Int) := by rw [b3]; simp
    have h1 := c45 r' c' l (by omega) (by omega) (by omega) (by omega) (by omega)
    unfold encM mat at *
    simp [ir20, h1, h2]
end Go.Proofs.YtmbdbkcifmkpbaaGreatDoor.Den
