/- Parts of the proof, joined: Grids: the law's. Grids: the law's product. Finite, same, is. -/
import Derived.Test.YtmbdbkcifmkpbaaGreatDoorCLA
section
set_option linter.unusedVariables false
set_option linter.unusedSimpArgs false
namespace Go.Proofs.YtmbdbkcifmkpbaaGreatDoor.Den
open Go
set_option maxRecDepth 10000
set_option maxHeartbeats 4000000
attribute [local simp] Ok_true Br_true Br_false rtV exec_none exec_some opV dstB dstW upd_nil upd_cons upd1_at args0_zero args0_succ args0_nil ev cellsV isDead notSelf allCell cellB shrL shr ownsL owns ownE elems frz noLst noLstL outV_ret outV_norm retV resL resV tupV nmL nm boolV isBoolV isSkV binV unV fillV chunk sizesB sizeV List.mapIdx_cons List.mapIdx_nil List.mapIdx List.mapIdx.go List.range List.range.loop List.map_cons List.map_nil Option.isSome_some Option.isSome_none Option.getD_some Option.map_some Option.bind_some Option.map_none Option.bind_none List.append_nil List.nil_append List.cons_append List.isEmpty_nil List.isEmpty_cons Bool.and_true Bool.true_and Bool.and_false Bool.false_and Bool.or_true Bool.or_false Bool.true_or Bool.false_or Bool.not_true Bool.not_false List.length_cons List.length_nil List.take List.drop List.getD_cons_zero List.getD_cons_succ List.getElem?_cons_zero List.getElem?_cons_succ List.replicate List.flatten Wp_skip Wp_exit Wp_ret Wp_kil Wp_reg Wp_dfr Wi_nil Wi_cons Wp_seq Wp_cond Wp_block seqQ_norm seqQ_exit seqQ_ret blkQ_norm blkQ_exit blkQ_ret nrQ_norm nrQ_exit nrQ_ret lpQ_norm lpQ_exit lpQ_ret outQ_norm outQ_ret rgQ_at kilR kil1 kil kilL sets List.set_cons_zero List.set_cons_succ kilR0 frzd isFz ren renL frV frQ_norm frQ_ret retFr shrF shrFL arrV1
attribute [local simp] wrap_id kil_ownV kil_arrV kil_lv
end Go.Proofs.YtmbdbkcifmkpbaaGreatDoor.Den
end
section
set_option linter.unusedVariables false
set_option linter.unusedSimpArgs false
namespace Go.Proofs.YtmbdbkcifmkpbaaGreatDoor.Den
open Go
set_option maxRecDepth 10000
set_option maxHeartbeats 4000000
attribute [local simp] Ok_true Br_true Br_false rtV exec_none exec_some opV dstB dstW upd_nil upd_cons upd1_at args0_zero args0_succ args0_nil ev cellsV isDead notSelf allCell cellB shrL shr ownsL owns ownE elems frz noLst noLstL outV_ret outV_norm retV resL resV tupV nmL nm boolV isBoolV isSkV binV unV fillV chunk sizesB sizeV List.mapIdx_cons List.mapIdx_nil List.mapIdx List.mapIdx.go List.range List.range.loop List.map_cons List.map_nil Option.isSome_some Option.isSome_none Option.getD_some Option.map_some Option.bind_some Option.map_none Option.bind_none List.append_nil List.nil_append List.cons_append List.isEmpty_nil List.isEmpty_cons Bool.and_true Bool.true_and Bool.and_false Bool.false_and Bool.or_true Bool.or_false Bool.true_or Bool.false_or Bool.not_true Bool.not_false List.length_cons List.length_nil List.take List.drop List.getD_cons_zero List.getD_cons_succ List.getElem?_cons_zero List.getElem?_cons_succ List.replicate List.flatten Wp_skip Wp_exit Wp_ret Wp_kil Wp_reg Wp_dfr Wi_nil Wi_cons Wp_seq Wp_cond Wp_block seqQ_norm seqQ_exit seqQ_ret blkQ_norm blkQ_exit blkQ_ret nrQ_norm nrQ_exit nrQ_ret lpQ_norm lpQ_exit lpQ_ret outQ_norm outQ_ret rgQ_at kilR kil1 kil kilL sets List.set_cons_zero List.set_cons_succ kilR0 frzd isFz ren renL frV frQ_norm frQ_ret retFr shrF shrFL arrV1
attribute [local simp] wrap_id kil_ownV kil_arrV kil_lv
theorem idx_w {i c j p : Nat} (hi : i ≤ 64) (hc : c ≤ 64) (hj : j ≤ 64) (hp : i * c + j = p) : IntKind.i64.wrap ((i : Int) * c) = ((i * c : Nat) : Int) ∧ IntKind.i64.wrap (((i * c : Nat) : Int) + j) = (p : Int) := by
  have hb : i * c ≤ 64 * 64 := Nat.mul_le_mul hi hc
  have hm : ((i : Int) * c) = ((i * c : Nat) : Int) := by rw [Int.natCast_mul]
  refine ⟨by rw [hm]; exact wrap_id (by omega) (by omega), ?_⟩
  rw [wrap_id (by omega) (by omega)]
  omega
end Go.Proofs.YtmbdbkcifmkpbaaGreatDoor.Den
end
section
set_option linter.unusedVariables false
set_option linter.unusedSimpArgs false
namespace Go.Proofs.YtmbdbkcifmkpbaaGreatDoor.Den
open Go
open Go.Proofs.YtmbdbkcifmkpbaaGreatDoor.OwnA (u64s finF)
set_option maxRecDepth 10000
set_option maxHeartbeats 4000000
attribute [local simp] Ok_true Br_true Br_false rtV exec_none exec_some opV dstB dstW upd_nil upd_cons upd1_at args0_zero args0_succ args0_nil ev cellsV isDead notSelf allCell cellB shrL shr ownsL owns ownE elems frz noLst noLstL outV_ret outV_norm retV resL resV tupV nmL nm boolV isBoolV isSkV binV unV fillV chunk sizesB sizeV List.mapIdx_cons List.mapIdx_nil List.mapIdx List.mapIdx.go List.range List.range.loop List.map_cons List.map_nil Option.isSome_some Option.isSome_none Option.getD_some Option.map_some Option.bind_some Option.map_none Option.bind_none List.append_nil List.nil_append List.cons_append List.isEmpty_nil List.isEmpty_cons Bool.and_true Bool.true_and Bool.and_false Bool.false_and Bool.or_true Bool.or_false Bool.true_or Bool.false_or Bool.not_true Bool.not_false List.length_cons List.length_nil List.take List.drop List.getD_cons_zero List.getD_cons_succ List.getElem?_cons_zero List.getElem?_cons_succ List.replicate List.flatten Wp_skip Wp_exit Wp_ret Wp_kil Wp_reg Wp_dfr Wi_nil Wi_cons Wp_seq Wp_cond Wp_block seqQ_norm seqQ_exit seqQ_ret blkQ_norm blkQ_exit blkQ_ret nrQ_norm nrQ_exit nrQ_ret lpQ_norm lpQ_exit lpQ_ret outQ_norm outQ_ret rgQ_at kilR kil1 kil kilL sets List.set_cons_zero List.set_cons_succ kilR0 frzd isFz ren renL frV frQ_norm frQ_ret retFr shrF shrFL arrV1
attribute [local simp] wrap_id
structure Mt where
  r : Int
  c : Int
  l : List Int
def encM (m : Mt) : V := mat m.r m.c m.l
def finM (m : Mt) : Int := finF m.r m.c m.l
theorem d31 (m : Mt) (h : u64s m.l) : D E 9 [encM m] = some (.int .i64 (finM m)) := by
  refine prE (p := p31) (by kernel_rfl) ?_
  have := PResid.okU_iff.2 h
  simp [p31, encM, mat, asUs_map, PResid.shape_Finite.f, this, finM]
def firstF : List Mt → Int
  | [] => 0
  | m :: l => if finM m = 0 then firstF l else finM m
theorem c26 (Ms : List Mt) (hM : ∀ m ∈ Ms, u64s m.l) (hl : Ms.length ≤ 100) : D E 31 [.lst (Ms.map encM)] = some (.int .i64 (firstF Ms)) := by
  refine wpE (F := ir31) (by kernel_rfl) (by kernel_rfl) ?_
  simp [ir31]
  refine Wp_loopS _ _ (fun i : Nat => [(8, .int .i64 i)]) (fun i => i ≤ Ms.length ∧ firstF Ms = firstF (Ms.drop i)) (fun i => Ms.length - i) 0 ⟨by omega, rfl⟩ (by simp) ?_
  rintro i ⟨hi0, hf⟩
  by_cases hi : i < Ms.length
  · have hn : (i : Int) < (Ms.length : Int) := by omega
    have hw : IntKind.i64.wrap ((i : Int) + 1) = (i : Int) + 1 := wrap_id (by omega) (by omega)
    have hd := d31 _ (hM _ (List.getElem_mem hi))
    rw [List.drop_eq_getElem_cons hi, firstF] at hf
    by_cases hz : finM (Ms[i]'hi) = 0
    · rw [if_pos hz] at hf
      simp only [encM, mat] at hd
      rw [hz] at hd
      simp [hn, hi, hw, hd, encM, mat]
      refine nxt_i _ (i + 1) ⟨hi, hf⟩ (by omega) ?_
      simp
    · rw [if_neg hz] at hf
      rw [hf]
      simp only [encM, mat] at hd
      simp [hn, hi, hw, hd, hz, encM, mat]
  · have hn : ¬ (i : Int) < (Ms.length : Int) := by omega
    rw [List.drop_of_length_le (by omega)] at hf
    rw [hf]
    simp [hn, firstF]
end Go.Proofs.YtmbdbkcifmkpbaaGreatDoor.Den
end
