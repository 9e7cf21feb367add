/- Certificates of triangles. -/
import Derived.Test.YtmbdbkcifmkpbaaGreatDoorCM10

set_option linter.unusedVariables false
set_option linter.unusedSimpArgs false
namespace Go.Proofs.YtmbdbkcifmkpbaaGreatDoor.Den
open Go
open Go.Proofs.YtmbdbkcifmkpbaaGreatDoor.OwnA (u64s finF fits sideB_iff)
set_option maxRecDepth 10000
set_option maxHeartbeats 16000000
attribute [local simp] Ok_true Br_true Br_false rtV exec_none exec_some opV dstB dstW upd_nil upd_cons upd1_at args0_zero args0_succ args0_nil ev cellsV isDead notSelf allCell cellB shrL shr ownsL owns ownE elems frz noLst noLstL outV_ret outV_norm retV resL resV tupV nmL nm boolV isBoolV isSkV binV unV fillV chunk sizesB sizeV List.mapIdx_cons List.mapIdx_nil List.mapIdx List.mapIdx.go List.range List.range.loop List.map_cons List.map_nil Option.isSome_some Option.isSome_none Option.getD_some Option.map_some Option.bind_some Option.map_none Option.bind_none List.append_nil List.nil_append List.cons_append List.isEmpty_nil List.isEmpty_cons Bool.and_true Bool.true_and Bool.and_false Bool.false_and Bool.or_true Bool.or_false Bool.true_or Bool.false_or Bool.not_true Bool.not_false List.length_cons List.length_nil List.take List.drop List.getD_cons_zero List.getD_cons_succ List.getElem?_cons_zero List.getElem?_cons_succ List.replicate List.flatten Wp_skip Wp_exit Wp_ret Wp_kil Wp_reg Wp_dfr Wi_nil Wi_cons Wp_seq Wp_cond Wp_block seqQ_norm seqQ_exit seqQ_ret blkQ_norm blkQ_exit blkQ_ret nrQ_norm nrQ_exit nrQ_ret lpQ_norm lpQ_exit lpQ_ret outQ_norm outQ_ret rgQ_at kilR kil1 kil kilL sets List.set_cons_zero List.set_cons_succ kilR0 frzd isFz ren renL frV frQ_norm frQ_ret retFr shrF shrFL arrV1
attribute [local simp] wrap_id
/-- half of a matrix, whatever it is -/
theorem e10 (l : Mt) (u n : Bool) (ul : u64s l.l) : ∃ h e, D E 10 [encM l, .bool u, .bool n] = some (.tup [encM h, .int .i64 e]) ∧ u64s h.l ∧ (finM l = 0 → h.l.length ≤ 100000) := by
  cases hf : fits l.r l.c l.l.length with
  | false => exact ⟨_, _, d10b l u n hf, fun y hy => by simp at hy, fun _ => by simp⟩
  | true =>
    unfold OwnA.fits at hf
    rw [Bool.and_eq_true, Bool.and_eq_true, sideB_iff, sideB_iff, decide_eq_true_iff] at hf
    obtain ⟨b1, b2, b3⟩ := hf
    obtain ⟨r, c, l⟩ := l
    simp only at b1 b2 b3 ul
    obtain ⟨m, rfl⟩ := Int.eq_ofNat_of_zero_le (show 0 ≤ r by omega)
    obtain ⟨k, rfl⟩ := Int.eq_ofNat_of_zero_le (show 0 ≤ c by omega)
    have b4 : (l.length : Int) = ((m * k : Nat) : Int) := by rw [b3]; simp
    have hb : m * k ≤ 64 * 64 := Nat.mul_le_mul (by omega) (by omega)
    refine ⟨⟨m, k, hA l m k u n m⟩, 0, c46 m k l u n (by omega) (by omega) (by omega) (by omega) (by omega), hA_u64 ul _, fun _ => ?_⟩
    show (hA l m k u n m).length ≤ 100000
    rw [hA_len]; omega
theorem p24s (u n : Bool) (k : Int) (l b x : Mt) (ul : u64s l.l) (ub : u64s b.l) (ux : u64s x.l) (hf : firstF [l, b, x] ≠ 0) :
    D E 24 [.agg [.bool n, .bool u, .int .i64 k], encM l, encM b, encM x] = some (.tup [encR zN zN false, .int .i64 (firstF [l, b, x])]) := by
  refine wpE (F := ir24) (by kernel_rfl) (by kernel_rfl) ?_
  have h1 := d31 l ul
  have h2 := d31 b ub
  have h3 := d31 x ux
  by_cases f1 : finM l = 0
  · by_cases f2 : finM b = 0
    · have f3 : ¬ finM x = 0 := fun f3 => hf (by simp [firstF, f1, f2, f3])
      have hv : firstF [l, b, x] = finM x := by simp [firstF, f1, f2, f3]
      rw [hv]
      rw [f1] at h1
      rw [f2] at h2
      unfold encM mat at *
      unfold encR zN
      simp [ir24, Wp_round, h1, h2, h3, f3]
    · have hv : firstF [l, b, x] = finM b := by simp [firstF, f1, f2]
      rw [hv]
      rw [f1] at h1
      unfold encM mat at *
      unfold encR zN
      simp [ir24, Wp_round, h1, h2, f2]
  · have hv : firstF [l, b, x] = finM l := by simp [firstF, f1]
    rw [hv]
    unfold encM mat at *
    unfold encR zN
    simp [ir24, Wp_round, h1, f1]
/-- what the law calls f: of the three, or the shape -/
def fL (l b x : Mt) : Int := if firstF [l, b, x] = 0 ∧ l.r ≠ l.c then 11 else firstF [l, b, x]
theorem p24q (u n : Bool) (k : Int) (l b x h : Mt) (eh : Int) (ul : u64s l.l) (ub : u64s b.l) (ux : u64s x.l) (hf : firstF [l, b, x] = 0) (hs : l.r ≠ l.c) (k0 : D E 10 [encM l, .bool u, .bool n] = some (.tup [encM h, .int .i64 eh])) :
    D E 24 [.agg [.bool n, .bool u, .int .i64 k], encM l, encM b, encM x] = some (.tup [encR zN zN false, .int .i64 11]) := by
  refine wpE (F := ir24) (by kernel_rfl) (by kernel_rfl) ?_
  have h1 := d31 l ul
  have h2 := d31 b ub
  have h3 := d31 x ux
  obtain ⟨f1, f2, f3⟩ := first3 hf
  rw [f1] at h1
  rw [f2] at h2
  rw [f3] at h3
  unfold encM mat at *
  unfold encR zN
  simp [ir24, Wp_round, h1, h2, h3, k0, hs]
theorem p24f (u n : Bool) (k : Int) (l b x h : Mt) (eh f : Int) (off : Num) (ul : u64s l.l) (ub : u64s b.l) (ux : u64s x.l) (hf : firstF [l, b, x] = 0) (hs : l.r = l.c) (k0 : D E 10 [encM l, .bool u, .bool n] = some (.tup [encM h, .int .i64 eh]))
    (k1 : D E 11 [encM h, encM x, encM b] = some (.tup [encN off, .int .i64 f])) (f0 : f ≠ 0) :
    D E 24 [.agg [.bool n, .bool u, .int .i64 k], encM l, encM b, encM x] = some (.tup [encR zN zN false, .int .i64 f]) := by
  obtain ⟨c, c', ll⟩ := l
  simp only at hs ul
  subst hs
  refine wpE (F := ir24) (by kernel_rfl) (by kernel_rfl) ?_
  have h1 := d31 ⟨c, c, ll⟩ ul
  have h2 := d31 b ub
  have h3 := d31 x ux
  obtain ⟨f1, f2, f3⟩ := first3 hf
  rw [f1] at h1
  rw [f2] at h2
  rw [f3] at h3
  unfold encM mat encN enc at *
  simp only at *
  unfold encR zN
  simp [-List.map_map, ir24, Wp_round, h1, h2, h3, k0, k1, f0]
theorem p24g (u n : Bool) (k : Int) (l b x h : Mt) (eh g : Int) (off p q : Num) (ul : u64s l.l) (ub : u64s b.l) (ux : u64s x.l) (hf : firstF [l, b, x] = 0) (hs : l.r = l.c) (k0 : D E 10 [encM l, .bool u, .bool n] = some (.tup [encM h, .int .i64 eh]))
    (k1 : D E 11 [encM h, encM x, encM b] = some (.tup [encN off, .int .i64 0])) (k2 : D E 12 [.int .i64 l.r, .int .i64 x.c, .bool u, .bool n, .int .i64 k] = some (.tup [encP p q, .int .i64 g])) (g0 : g ≠ 0) :
    D E 24 [.agg [.bool n, .bool u, .int .i64 k], encM l, encM b, encM x] = some (.tup [encR zN zN false, .int .i64 g]) := by
  obtain ⟨c, c', ll⟩ := l
  simp only at hs ul k2
  subst hs
  refine wpE (F := ir24) (by kernel_rfl) (by kernel_rfl) ?_
  have h1 := d31 ⟨c, c, ll⟩ ul
  have h2 := d31 b ub
  have h3 := d31 x ux
  obtain ⟨f1, f2, f3⟩ := first3 hf
  rw [f1] at h1
  rw [f2] at h2
  rw [f3] at h3
  unfold encM mat encN enc at *
  simp only at *
  unfold encP encR zN at *
  simp [-List.map_map, ir24, Wp_round, h1, h2, h3, k0, k1, k2, g0]
theorem p24v (u n : Bool) (k : Int) (l b x h : Mt) (eh : Int) (off p q v : Num) (ul : u64s l.l) (ub : u64s b.l) (ux : u64s x.l) (hf : firstF [l, b, x] = 0) (hs : l.r = l.c) (k0 : D E 10 [encM l, .bool u, .bool n] = some (.tup [encM h, .int .i64 eh]))
    (k1 : D E 11 [encM h, encM x, encM b] = some (.tup [encN off, .int .i64 0])) (k2 : D E 12 [.int .i64 l.r, .int .i64 x.c, .bool u, .bool n, .int .i64 k] = some (.tup [encP p q, .int .i64 0]))
    (k3 : D E 42 [encP p q, encM h, encM x, .bool true] = some (.tup [encN v, .int .i64 0])) (t : Bool) (k4 : D E 43 [encN v, encN off, .int .i64 0] = some (.tup [encR v off t, .int .i64 0])) :
    D E 24 [.agg [.bool n, .bool u, .int .i64 k], encM l, encM b, encM x] = some (.tup [encR v off t, .int .i64 0]) := by
  obtain ⟨c, c', ll⟩ := l
  simp only at hs ul k2
  subst hs
  refine wpE (F := ir24) (by kernel_rfl) (by kernel_rfl) ?_
  have h1 := d31 ⟨c, c, ll⟩ ul
  have h2 := d31 b ub
  have h3 := d31 x ux
  obtain ⟨f1, f2, f3⟩ := first3 hf
  rw [f1] at h1
  rw [f2] at h2
  rw [f3] at h3
  unfold encM mat encN enc at *
  simp only at *
  unfold encP encR at *
  simp [-List.map_map, ir24, Wp_round, h1, h2, h3, k0, k1, k2, k3, k4]
end Go.Proofs.YtmbdbkcifmkpbaaGreatDoor.Den
