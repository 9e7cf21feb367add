/- A number rounded up. -/
import Derived.Test.YtmbdbkcifmkpbaaGreatDoorCM2

set_option linter.unusedVariables false
set_option linter.unusedSimpArgs false
namespace Go.Proofs.YtmbdbkcifmkpbaaGreatDoor.Den
open Go
open Go.Proofs.YtmbdbkcifmkpbaaGreatDoor.OwnA (u64s normF toldF addF shlF cmpF bitsF sizeF)
open Go.Proofs.YtmbdbkcifmkpbaaGreatDoor.PResid (okL okL_iff)
set_option maxRecDepth 10000
set_option maxHeartbeats 4000000
attribute [local simp] Ok_true Br_true Br_false rtV exec_none exec_some opV dstB dstW upd_nil upd_cons upd1_at args0_zero args0_succ args0_nil ev cellsV isDead notSelf allCell cellB shrL shr ownsL owns ownE elems frz noLst noLstL outV_ret outV_norm retV resL resV tupV nmL nm boolV isBoolV isSkV binV unV fillV chunk sizesB sizeV List.mapIdx_cons List.mapIdx_nil List.mapIdx List.mapIdx.go List.range List.range.loop List.map_cons List.map_nil Option.isSome_some Option.isSome_none Option.getD_some Option.map_some Option.bind_some Option.map_none Option.bind_none List.append_nil List.nil_append List.cons_append List.isEmpty_nil List.isEmpty_cons Bool.and_true Bool.true_and Bool.and_false Bool.false_and Bool.or_true Bool.or_false Bool.true_or Bool.false_or Bool.not_true Bool.not_false List.length_cons List.length_nil List.take List.drop List.getD_cons_zero List.getD_cons_succ List.getElem?_cons_zero List.getElem?_cons_succ List.replicate List.flatten Wp_skip Wp_exit Wp_ret Wp_kil Wp_reg Wp_dfr Wi_nil Wi_cons Wp_seq Wp_cond Wp_block seqQ_norm seqQ_exit seqQ_ret blkQ_norm blkQ_exit blkQ_ret nrQ_norm nrQ_exit nrQ_ret lpQ_norm lpQ_exit lpQ_ret outQ_norm outQ_ret rgQ_at kilR kil1 kil kilL sets List.set_cons_zero List.set_cons_succ kilR0 frzd isFz ren renL frV frQ_norm frQ_ret retFr shrF shrFL arrV1
attribute [local simp] wrap_id
theorem d121 (l : List Int) (n : Int) (h : okS l) (h0 : 0 ≤ n) (h1 : n ≤ 65536) : D E 121 [.lst (l.map (V.int .u64)), .int .i64 n] = some (.lst ((OwnA.shrF l n).map (V.int .u64))) := by
  refine prE (p := p121) (by kernel_rfl) ?_
  have := okL_iff.2 h
  simp [p121, asUs_map, this, h0, h1, limbs_is]
theorem d105 (l : List Int) (n : Int) (h : okS l) (h0 : 0 ≤ n) (h1 : n ≤ 65536) : D E 105 [.lst (l.map (V.int .u64)), .int .i64 n] = some (.tup [.lst ((OwnA.shrF l n).map (V.int .u64)), .int .i64 0]) := by
  refine wpE (F := ir105) (by kernel_rfl) (by kernel_rfl) ?_
  simp [ir105, d83 n h0 h1, d121 l n h h0 h1]
theorem d104 (l : List Int) (h : okS l) : D E 104 [.lst (l.map (V.int .u64))] = some (.int .i64 (bitsF l)) := by
  refine prE (p := p104) (by kernel_rfl) ?_
  have := okL_iff.2 h
  simp [p104, asUs_map, this]
theorem lenF_bd {x : Int} (h0 : 1 ≤ x) (h1 : x < 18446744073709551616) : 1 ≤ OwnA.lenF x ∧ OwnA.lenF x ≤ 64 := OwnA.lenF_bd x h0 h1
theorem bitsF_bd {l : List Int} (hu : u64s l) : 0 ≤ bitsF l ∧ bitsF l ≤ 64 * (sizeF l l.length : Int) := by
  unfold bitsF
  split
  · omega
  · rename_i h
    have h2 := OwnA.sizeF_top l l.length (sizeF l l.length - 1) (by omega)
    have h3 := u64_rd hu (sizeF l l.length - 1)
    have := lenF_bd (x := Go.Proofs.YtmbdbkcifmkpbaaGreatDoorW.PrintWords.rd l (sizeF l l.length - 1 : Nat)) (by omega) h3.2
    omega
theorem size_low {l : List Int} (hu : u64s l) {n : Nat} (hn : sizeF l l.length = n + 1) : (2 : Int) ^ (64 * n) ≤ val l := by
  rw [← val_norm]
  exact tp_low (OwnA.normF_u64 hu) (tp_norm l) (by rw [normF_size, hn])
/-- of few bits, no less -/
def abvL (l : List Int) (n : Int) : List Int := if cmpF (shlF (OwnA.shrF l n) n) l < 0 then addF (OwnA.shrF l n) [1] else OwnA.shrF l n
def abvD (l : List Int) (x : Int) : OwnA.Dy := if bitsF l - 128 ≤ 0 then toldF false l x else toldF false (abvL l (bitsF l - 128)) (x + (bitsF l - 128))
theorem abv_IV {lo hi : Int} {c : Num} (h : IV lo hi c) (h0 : -16384 ≤ lo) (h1 : hi + 1 ≤ 16384) (hz : lo ≤ 0) (hz2 : 0 ≤ hi) :
    IV lo (hi + 1) (numD (abvD c.l c.x)) ∧ (abvD c.l c.x).e = 0 ∧ (0 < bitsF c.l - 128 → okS (OwnA.shrF c.l (bitsF c.l - 128)) ∧ bitsF c.l - 128 ≤ 65536 ∧ okS (abvL c.l (bitsF c.l - 128)) ∧ (OwnA.shrF c.l (bitsF c.l - 128)).length ≤ 1024) := by
  obtain ⟨n, l, x⟩ := c
  have hu := h.u
  have hlen := h.len
  have bl := h.bl
  have bh := h.bh
  have hv := h.v
  simp only at hu hlen bl bh hv
  have hb := bitsF_bd hu
  have hsz := OwnA.sizeF_le l l.length
  have h2 := IV.mono h (Int.le_refl lo) (show hi ≤ hi + 1 by omega)
  by_cases hn : bitsF l - 128 ≤ 0
  · unfold abvD
    simp only [if_pos hn]
    have := told_IV (lo := lo) (hi := hi + 1) hu (by omega) h0 h1 hz (by omega) bl (by omega) h2.v
    exact ⟨this.1, this.2, fun hh => by omega⟩
  · unfold abvD
    simp only [if_neg hn]
    obtain ⟨k, hk⟩ : ∃ k, bitsF l - 128 = k := ⟨_, rfl⟩
    rw [hk] at hn ⊢
    obtain ⟨m, hm⟩ : ∃ m, sizeF l l.length = m + 1 := ⟨sizeF l l.length - 1, by omega⟩
    have hlow := size_low hu hm
    have hlt : 64 * m < (hi - x).toNat := p2_lt (by omega)
    have hkx : x + k ≤ hi := by omega
    have vs : val (OwnA.shrF l k) = val l / 2 ^ k.toNat := val_shr (by omega) hu
    have us : u64s (OwnA.shrF l k) := OwnA.shrF_u64 hu _
    have ls : (OwnA.shrF l k).length ≤ 1024 := Nat.le_trans (OwnA.shrF_len _ _) hlen
    have hq : val (OwnA.shrF l k) < 2 ^ (hi - (x + k)).toNat := by
      rw [vs]
      refine Int.ediv_lt_of_lt_mul (p2 _) ?_
      rw [← Int.pow_add, show (hi - (x + k)).toNat + k.toNat = (hi - x).toNat by omega]
      exact hv
    have u1 : u64s [1] := fun y hy => by simp at hy; omega
    have ua : okS (abvL l k) ∧ val (abvL l k) ≤ val (OwnA.shrF l k) + 1 := by
      unfold abvL
      split
      · refine ⟨okS_add (by omega) (by simp), ?_⟩
        rw [val_add us u1]
        simp [val]
      · exact ⟨⟨by omega, us⟩, by omega⟩
    have hs : val (abvL l k) < 2 ^ (hi + 1 - (x + k)).toNat := by
      have := p2 (hi - (x + k)).toNat
      rw [show (hi + 1 - (x + k)).toNat = (hi - (x + k)).toNat + 1 by omega, Int.pow_succ]
      omega
    have := told_IV (lo := lo) (hi := hi + 1) ua.1.2 ua.1.1 h0 h1 hz (by omega) (show lo ≤ x + k by omega) (by omega) hs
    exact ⟨this.1, this.2, fun _ => ⟨⟨by omega, us⟩, by omega, ua.1, ls⟩⟩
theorem q88 {lo hi : Int} {c : Num} (h : IV lo hi c) (h0 : -16384 ≤ lo := by omega) (h1 : hi + 1 ≤ 16384 := by omega) (hz : lo ≤ 0 := by omega) (hz2 : 0 ≤ hi := by omega) :
    ∃ d, D E 88 [encN c, .int .i64 128] = some (.tup [encN d, .int .i64 0]) ∧ IV lo (hi + 1) d := by
  obtain ⟨a1, a2, a3⟩ := abv_IV h h0 h1 hz hz2
  refine ⟨numD (abvD c.l c.x), ?_, a1⟩
  have gc := IV_G h h0 (by omega)
  obtain ⟨n, l, x⟩ := c
  have hn := h.n
  have bl := h.bl
  have bh := h.bh
  simp only at hn a2 a3 gc bl bh
  subst hn
  have hu := h.u
  have hlen := h.len
  simp only at hu hlen
  have ok : okS l := ⟨by omega, hu⟩
  have hb := bitsF_bd hu
  have hsz := OwnA.sizeF_le l l.length
  have k1 := d71 false l x (by omega)
  rw [show OwnA.checkF l x = 0 from Gd.chk gc] at k1
  have k2 := d104 l ok
  obtain ⟨B, hB⟩ : ∃ B, bitsF l = B := ⟨_, rfl⟩
  refine wpE (F := ir88) (by kernel_rfl) (by kernel_rfl) ?_
  unfold abvD at a2 ⊢
  rw [hB] at hb k2 a2 a3 ⊢
  have e1 : IntKind.i64.wrap (B - 128) = B - 128 := wrap_id (by omega) (by omega)
  by_cases hk : B - 128 ≤ 0
  · rw [if_pos hk] at a2 ⊢
    have k3 := d55 false l x gc
    rw [a2] at k3
    unfold encN numD
    unfold enc at *
    simp [ir88, k1, k2, k3, e1, hk]
  · rw [if_neg hk] at a2 ⊢
    obtain ⟨q1, q2, q3, q4⟩ := a3 (by omega)
    have k3 := d105 l (B - 128) ok (by omega) q2
    have k4 := d74 (OwnA.shrF l (B - 128)) (B - 128) q1.1 q1.2 (by omega) q2
    have q5 : okS (shlF (OwnA.shrF l (B - 128)) (B - 128)) := ⟨by have := shlF_len (OwnA.shrF l (B - 128)) (B - 128); omega, shlF_ok q1.2⟩
    have k5 := d90 _ _ q5 ok
    have u1 : u64s [1] := fun y hy => by simp at hy; omega
    have k6 := d88 (OwnA.shrF l (B - 128)) [1] q1 ⟨by simp, u1⟩
    have k7 := d72 false (abvL l (B - 128)) (x + (B - 128)) q3 (by omega) (by omega)
    rw [a2] at k7
    have e2 : IntKind.i64.wrap (x + (B - 128)) = x + (B - 128) := wrap_id (by omega) (by omega)
    unfold abvL at k7 ⊢
    by_cases hc : cmpF (shlF (OwnA.shrF l (B - 128)) (B - 128)) l < 0
    · rw [if_pos hc] at k7 ⊢
      unfold encN numD
      unfold enc wh at *
      simp at k6
      simp [ir88, k1, k2, k3, k4, k5, k6, k7, e1, e2, hk, hc]
    · rw [if_neg hc] at k7 ⊢
      unfold encN numD
      unfold enc wh at *
      simp [ir88, k1, k2, k3, k4, k5, k7, e1, e2, hk, hc]
end Go.Proofs.YtmbdbkcifmkpbaaGreatDoor.Den
