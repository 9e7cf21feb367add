/- The law: Certificates of triangles. -/
import Derived.Test.YtmbdbkcifmkpbaaGreatDoorCM12

set_option linter.unusedVariables false
set_option linter.unusedSimpArgs false
namespace Go.Proofs.YtmbdbkcifmkpbaaGreatDoor.Den
open Go
open Go.Proofs.YtmbdbkcifmkpbaaGreatDoor.OwnA (u64s finF fits sideB_iff)
set_option maxRecDepth 10000
set_option maxHeartbeats 16000000
attribute [local simp] Ok_true Br_true Br_false rtV exec_none exec_some opV dstB dstW upd_nil upd_cons upd1_at args0_zero args0_succ args0_nil ev cellsV isDead notSelf allCell cellB shrL shr ownsL owns ownE elems frz noLst noLstL outV_ret outV_norm retV resL resV tupV nmL nm boolV isBoolV isSkV binV unV fillV chunk sizesB sizeV List.mapIdx_cons List.mapIdx_nil List.mapIdx List.mapIdx.go List.range List.range.loop List.map_cons List.map_nil Option.isSome_some Option.isSome_none Option.getD_some Option.map_some Option.bind_some Option.map_none Option.bind_none List.append_nil List.nil_append List.cons_append List.isEmpty_nil List.isEmpty_cons Bool.and_true Bool.true_and Bool.and_false Bool.false_and Bool.or_true Bool.or_false Bool.true_or Bool.false_or Bool.not_true Bool.not_false List.length_cons List.length_nil List.take List.drop List.getD_cons_zero List.getD_cons_succ List.getElem?_cons_zero List.getElem?_cons_succ List.replicate List.flatten Wp_skip Wp_exit Wp_ret Wp_kil Wp_reg Wp_dfr Wi_nil Wi_cons Wp_seq Wp_cond Wp_block seqQ_norm seqQ_exit seqQ_ret blkQ_norm blkQ_exit blkQ_ret nrQ_norm nrQ_exit nrQ_ret lpQ_norm lpQ_exit lpQ_ret outQ_norm outQ_ret rgQ_at kilR kil1 kil kilL sets List.set_cons_zero List.set_cons_succ kilR0 frzd isFz ren renL frV frQ_norm frQ_ret retFr shrF shrFL arrV1
attribute [local simp] wrap_id
/-- THE LAW: certificates of triangles. -/
theorem t3 (l : Mt) (u n : Bool) (b x : Mt) (k : Int) (ul : u64s l.l) (ub : u64s b.l) (ux : u64s x.l) : D E 3 [encM l, .bool u, .bool n, encM b, encM x, .int .i64 k] = some (.bool true) := by
  have k0 := c5
  have h1 := d31 l ul
  have h2 := d31 b ub
  have h3 := d31 x ux
  have h4 : ∃ y, D E 8 [.int .i64 (finM l), .int .i64 (finM b)] = some (.int .i64 y) ∧ D E 8 [.int .i64 y, .int .i64 (finM x)] = some (.int .i64 (firstF [l, b, x])) := by
    refine ⟨_, d8 _ _, ?_⟩
    rw [d8]
    by_cases f1 : finM l = 0
    · by_cases f2 : finM b = 0
      · by_cases f3 : finM x = 0
        · simp [firstF, f1, f2, f3]
        · simp [firstF, f1, f2, f3]
      · simp [firstF, f1, f2]
    · simp [firstF, f1]
  obtain ⟨y, h4, h5⟩ := h4
  obtain ⟨rb, ro, rh, e, off, f, hm, eh, p, q, g, z, w, v, h, a1, a2, a3, a4, a5, a6, a7, a8⟩ := c24t u n k l b x ul ub ux
  obtain ⟨rb2, ro2, rh2, e2, a9⟩ : ∃ rb ro rh e, D E 6 [encM l, .bool n, encM b, encM x, .int .i64 k] = some (.tup [encR rb ro rh, .int .i64 e]) := by
    obtain ⟨rb, ro, rh, e, _, _, _, _, _, _, _, _, _, _, _, b1, _⟩ := c24t false n k l b x ul ub ux
    exact ⟨rb, ro, rh, e, c6l n k e l b x rb ro rh b1⟩
  refine wpE (F := ir3) (by kernel_rfl) (by kernel_rfl) ?_
  have hL : (firstF [l, b, x] = 0 ∧ l.r ≠ l.c → fL l b x = 11) ∧ (¬ (firstF [l, b, x] = 0 ∧ l.r ≠ l.c) → fL l b x = firstF [l, b, x]) := ⟨fun h => by unfold fL; rw [if_pos h], fun h => by unfold fL; rw [if_neg h]⟩
  generalize fL l b x = F at *
  generalize firstF [l, b, x] = G at *
  cases u with
  | false =>
    have b1 := c6l n k e l b x rb ro rh a1
    clear a1 a9
    by_cases hg : G = 0
    · by_cases hs : l.r = l.c
      · have := hL.2 (fun e => e.2 hs)
        subst this
        subst hg
        obtain ⟨c, c', ll⟩ := l
        simp only at hs
        subst hs
        clear hL
        unfold encN enc encM mat at *
        unfold encP encR at *
        simp only at *
        simp (maxSteps := 4000000) [-List.map_map, ir3, k0, b1, h1, h2, h3, h4, h5, a2, a3, a4, a5, a6, a7, a8]
      · have := hL.1 ⟨hg, hs⟩
        subst this
        subst hg
        clear hL
        unfold encN enc encM mat at *
        unfold encP encR at *
        simp (maxSteps := 4000000) [-List.map_map, ir3, k0, b1, h1, h2, h3, h4, h5, hs, a2, a3, a4, a5, a6, a7, a8]
    · have := hL.2 (fun e => hg e.1)
      subst this
      clear hL
      unfold encN enc encM mat at *
      unfold encP encR at *
      simp (maxSteps := 4000000) [-List.map_map, ir3, k0, b1, h1, h2, h3, h4, h5, hg, a2, a3, a4, a5, a6, a7, a8]
  | true =>
    have b1 := c7u n k e l b x rb ro rh a1
    clear a1
    by_cases hg : G = 0
    · by_cases hs : l.r = l.c
      · have := hL.2 (fun e => e.2 hs)
        subst this
        subst hg
        obtain ⟨c, c', ll⟩ := l
        simp only at hs
        subst hs
        clear hL
        unfold encN enc encM mat at *
        unfold encP encR at *
        simp only at *
        simp (maxSteps := 4000000) [-List.map_map, ir3, k0, a9, b1, h1, h2, h3, h4, h5, a2, a3, a4, a5, a6, a7, a8]
      · have := hL.1 ⟨hg, hs⟩
        subst this
        subst hg
        clear hL
        unfold encN enc encM mat at *
        unfold encP encR at *
        simp (maxSteps := 4000000) [-List.map_map, ir3, k0, a9, b1, h1, h2, h3, h4, h5, hs, a2, a3, a4, a5, a6, a7, a8]
    · have := hL.2 (fun e => hg e.1)
      subst this
      clear hL
      unfold encN enc encM mat at *
      unfold encP encR at *
      simp (maxSteps := 4000000) [-List.map_map, ir3, k0, a9, b1, h1, h2, h3, h4, h5, hg, a2, a3, a4, a5, a6, a7, a8]
end Go.Proofs.YtmbdbkcifmkpbaaGreatDoor.Den
