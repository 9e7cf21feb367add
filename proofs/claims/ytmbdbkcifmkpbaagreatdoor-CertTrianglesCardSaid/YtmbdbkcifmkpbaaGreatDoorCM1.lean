/- Numbers that are not below 0: made, added, multiplied, the greatest one. -/
import Derived.Test.YtmbdbkcifmkpbaaGreatDoorCV
import Derived.Test.YtmbdbkcifmkpbaaGreatDoorCLA

set_option linter.unusedVariables false
set_option linter.unusedSimpArgs false
namespace Go.Proofs.YtmbdbkcifmkpbaaGreatDoor.Den
open Go
open Go.Proofs.YtmbdbkcifmkpbaaGreatDoor.OwnA (u64s normF toldF addF)
set_option maxRecDepth 10000
set_option maxHeartbeats 4000000
attribute [local simp] Ok_true Br_true Br_false rtV exec_none exec_some opV dstB dstW upd_nil upd_cons upd1_at args0_zero args0_succ args0_nil ev cellsV isDead notSelf allCell cellB shrL shr ownsL owns ownE elems frz noLst noLstL outV_ret outV_norm retV resL resV tupV nmL nm boolV isBoolV isSkV binV unV fillV chunk sizesB sizeV List.mapIdx_cons List.mapIdx_nil List.mapIdx List.mapIdx.go List.range List.range.loop List.map_cons List.map_nil Option.isSome_some Option.isSome_none Option.getD_some Option.map_some Option.bind_some Option.map_none Option.bind_none List.append_nil List.nil_append List.cons_append List.isEmpty_nil List.isEmpty_cons Bool.and_true Bool.true_and Bool.and_false Bool.false_and Bool.or_true Bool.or_false Bool.true_or Bool.false_or Bool.not_true Bool.not_false List.length_cons List.length_nil List.take List.drop List.getD_cons_zero List.getD_cons_succ List.getElem?_cons_zero List.getElem?_cons_succ List.replicate List.flatten Wp_skip Wp_exit Wp_ret Wp_kil Wp_reg Wp_dfr Wi_nil Wi_cons Wp_seq Wp_cond Wp_block seqQ_norm seqQ_exit seqQ_ret blkQ_norm blkQ_exit blkQ_ret nrQ_norm nrQ_exit nrQ_ret lpQ_norm lpQ_exit lpQ_ret outQ_norm outQ_ret rgQ_at kilR kil1 kil kilL sets List.set_cons_zero List.set_cons_succ kilR0 frzd isFz ren renL frV frQ_norm frQ_ret retFr shrF shrFL arrV1
attribute [local simp] wrap_id
theorem b83 {lo hi : Int} {a b : Num} (ha : IV lo hi a) (hb : IV lo hi b) (h0 : -16384 ≤ lo) (h1 : hi + 1 ≤ 16384) (hz : lo ≤ 0) (hz2 : 0 ≤ hi) : D E 83 [encN a, encN b] = some (.tup [encN (addN a b), .int .i64 0]) := by
  have h := d60 a.n b.n a.l b.l a.x b.x (IV_G ha h0 (by omega)) (IV_G hb h0 (by omega))
  rw [(add_IV ha hb h0 h1 hz hz2).2] at h
  exact h
theorem b84 {lo hi lo' hi' : Int} {a b : Num} (ha : IV lo hi a) (hb : IV lo' hi' b) (h0 : -16384 ≤ lo + lo') (h1 : hi + hi' ≤ 16384) (hz : lo + lo' ≤ 0) (hz2 : 0 ≤ hi + hi') (g0 : -16384 ≤ lo) (g1 : -16384 ≤ lo') (g2 : hi ≤ 16384) (g3 : hi' ≤ 16384) : D E 84 [encN a, encN b] = some (.tup [encN (mulN a b), .int .i64 0]) := by
  have h := d61 a.n b.n a.l b.l a.x b.x (IV_G ha g0 g2) (IV_G hb g1 g3)
  rw [(mul_IV ha hb h0 h1 hz hz2).2] at h
  exact h
theorem q67 (c : Num) : D E 67 [encN c, .int .i64 0] = some (encN c) := by
  refine wpE (F := ir67) (by kernel_rfl) (by kernel_rfl) ?_
  unfold encN enc
  simp [ir67]
theorem d103 (n : Int) (h0 : 0 ≤ n) (h1 : n ≤ 64) : D E 103 [.int .i64 n] = some (wh false (normF [n])) := by
  refine wpE (F := ir103) (by kernel_rfl) (by kernel_rfl) ?_
  have e1 : ¬ n < 0 := by omega
  have e2 : IntKind.u64.wrap n = n := by rw [IntKind.wrap_u64]; omega
  have h := d87 false [n] ⟨by simp, fun y hy => by simp at hy; subst hy; omega⟩
  rw [mdN_false] at h
  unfold wh at *
  simp at h
  simp [ir103, e1, e2, h]
/-- a whole number times a power of two -/
def ofN (n x : Int) : Num := numD (toldF false (normF [n]) x)
theorem ofN_told {n x : Int} (h0 : 0 ≤ n) (h1 : n ≤ 64) (x0 : -1075 ≤ x) (x1 : x ≤ 0) : IV x 7 (ofN n x) ∧ (toldF false (normF [n]) x).e = 0 := by
  have hu : u64s [n] := fun y hy => by simp at hy; subst hy; omega
  refine told_IV (OwnA.normF_u64 hu) (Nat.le_trans (OwnA.normF_len _) (by simp)) (by omega) (by omega) (by omega) (by omega) (by omega) (by omega) ?_
  rw [val_norm]
  have := pw_le (show 7 ≤ (7 - x).toNat by omega)
  have e7 : (2 : Int) ^ 7 = 128 := by rfl
  simp only [val]
  omega
theorem d85 (n x : Int) (h0 : 0 ≤ n) (h1 : n ≤ 64) (x0 : -1075 ≤ x) (x1 : x ≤ 0) : D E 85 [.int .i64 n, .int .i64 x] = some (.tup [encN (ofN n x), .int .i64 0]) := by
  refine wpE (F := ir85) (by kernel_rfl) (by kernel_rfl) ?_
  have k1 := d103 n h0 h1
  have hu : u64s [n] := fun y hy => by simp at hy; subst hy; omega
  have k2 := d72 false (normF [n]) x ⟨Nat.le_trans (OwnA.normF_len _) (by simp), OwnA.normF_u64 hu⟩ (by omega) (by omega)
  rw [(ofN_told h0 h1 x0 x1).2] at k2
  have e1 : ¬ x < -16384 := by omega
  have e2 : ¬ 16384 < x := by omega
  have e3 : ¬ x > 16384 := by omega
  unfold encN ofN numD
  unfold wh enc at *
  simp [ir85, k1, k2, e1, e2, e3]
theorem q58 (n x : Int) (h0 : 0 ≤ n) (h1 : n ≤ 64) (x0 : -1075 ≤ x) (x1 : x ≤ 0) : D E 58 [.int .i64 n, .int .i64 x] = some (encN (ofN n x)) := by
  refine wpE (F := ir58) (by kernel_rfl) (by kernel_rfl) ?_
  have k1 := d85 n x h0 h1 x0 x1
  have k2 := q67 (ofN n x)
  unfold encN enc at *
  simp [ir58, k1, k2]
theorem q66 (a : Num) (l : List Num) (F : Nat → Num) (hF : F 0 = a) (hs : ∀ k (h : k < l.length), D E 83 [encN (F k), encN (l[k]'h)] = some (.tup [encN (F (k + 1)), .int .i64 0])) (hl : l.length ≤ 1000) :
    D E 66 [encN a, .lst (l.map encN)] = some (encN (F l.length)) := by
  refine wpE (F := ir66) (by kernel_rfl) (by kernel_rfl) ?_
  rw [← hF]
  unfold encN enc
  simp [ir66]
  refine Wp_loopS _ _ (fun i : Nat => [(9, .int .i64 i), (23, .bool (F i).n), (24, .lst ((F i).l.map (V.int .u64))), (25, .int .i64 (F i).x)]) (fun i => i ≤ l.length) (fun i => l.length - i) 0 (Nat.zero_le _) (by simp) ?_
  intro i hi0
  by_cases hi : i < l.length
  · have hn : (i : Int) < (l.length : Int) := by omega
    have hw : IntKind.i64.wrap ((i : Int) + 1) = (i : Int) + 1 := wrap_id (by omega) (by omega)
    have h1 := hs i hi
    have h2 := q67 (F (i + 1))
    simp only [encN, enc] at h1 h2
    simp [hn, hi, hw, h1, h2, encN, enc]
    refine nxt_i _ (i + 1) hi (by show l.length - (i + 1) < l.length - i; omega) ?_
    simp
  · have hn : ¬ (i : Int) < (l.length : Int) := by omega
    have hie : i = l.length := by omega
    rw [hie] at hn ⊢
    simp [hn]
theorem q65 (a : Num) (l : List Num) (F : Nat → Num) (hF : F 0 = a) (hs : ∀ k (h : k < l.length), D E 84 [encN (F k), encN (l[k]'h)] = some (.tup [encN (F (k + 1)), .int .i64 0])) (hl : l.length ≤ 1000) :
    D E 65 [encN a, .lst (l.map encN)] = some (encN (F l.length)) := by
  refine wpE (F := ir65) (by kernel_rfl) (by kernel_rfl) ?_
  rw [← hF]
  unfold encN enc
  simp [ir65]
  refine Wp_loopS _ _ (fun i : Nat => [(9, .int .i64 i), (23, .bool (F i).n), (24, .lst ((F i).l.map (V.int .u64))), (25, .int .i64 (F i).x)]) (fun i => i ≤ l.length) (fun i => l.length - i) 0 (Nat.zero_le _) (by simp) ?_
  intro i hi0
  by_cases hi : i < l.length
  · have hn : (i : Int) < (l.length : Int) := by omega
    have hw : IntKind.i64.wrap ((i : Int) + 1) = (i : Int) + 1 := wrap_id (by omega) (by omega)
    have h1 := hs i hi
    have h2 := q67 (F (i + 1))
    simp only [encN, enc] at h1 h2
    simp [hn, hi, hw, h1, h2, encN, enc]
    refine nxt_i _ (i + 1) hi (by show l.length - (i + 1) < l.length - i; omega) ?_
    simp
  · have hn : ¬ (i : Int) < (l.length : Int) := by omega
    have hie : i = l.length := by omega
    rw [hie] at hn ⊢
    simp [hn]
theorem q86 (a : Num) (l : List Num) (F : Nat → Num) (hF : F 0 = a) (gF : ∀ k, GN (F k)) (gl : ∀ b ∈ l, GN b) (hs : ∀ k (h : k < l.length), F (k + 1) = if cmpN (F k) (l[k]'h) < 0 then l[k]'h else F k) (hl : l.length ≤ 1000) :
    D E 86 [encN a, .lst (l.map encN)] = some (encN (F l.length)) := by
  refine wpE (F := ir86) (by kernel_rfl) (by kernel_rfl) ?_
  rw [← hF]
  unfold encN enc
  simp [ir86]
  refine Wp_loopS _ _ (fun i : Nat => [(11, .int .i64 i), (28, .bool (F i).n), (29, .lst ((F i).l.map (V.int .u64))), (30, .int .i64 (F i).x)]) (fun i => i ≤ l.length) (fun i => l.length - i) 0 (Nat.zero_le _) (by simp) ?_
  intro i hi0
  by_cases hi : i < l.length
  · have hn : (i : Int) < (l.length : Int) := by omega
    have hw : IntKind.i64.wrap ((i : Int) + 1) = (i : Int) + 1 := wrap_id (by omega) (by omega)
    have h1 := c33 (gF i) (gl _ (List.getElem_mem hi))
    have h2 := hs i hi
    by_cases hc : cmpN (F i) (l[i]'hi) < 0
    · rw [if_pos hc] at h2
      simp only [encN, enc] at h1
      simp [hn, hi, hw, h1, hc, encN, enc]
      refine nxt_i _ (i + 1) hi (by show l.length - (i + 1) < l.length - i; omega) ?_
      simp [h2]
    · rw [if_neg hc] at h2
      simp only [encN, enc] at h1
      simp [hn, hi, hw, h1, hc, encN, enc]
      refine nxt_i _ (i + 1) hi (by show l.length - (i + 1) < l.length - i; omega) ?_
      simp [h2]
  · have hn : ¬ (i : Int) < (l.length : Int) := by omega
    have hie : i = l.length := by omega
    rw [hie] at hn ⊢
    simp [hn]
end Go.Proofs.YtmbdbkcifmkpbaaGreatDoor.Den
