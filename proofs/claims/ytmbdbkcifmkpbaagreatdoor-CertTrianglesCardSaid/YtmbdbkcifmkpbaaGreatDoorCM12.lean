/- Certificates of triangles. -/
import Derived.Test.YtmbdbkcifmkpbaaGreatDoorCM11

set_option linter.unusedVariables false
set_option linter.unusedSimpArgs false
namespace Go.Proofs.YtmbdbkcifmkpbaaGreatDoor.Den
open Go
open Go.Proofs.YtmbdbkcifmkpbaaGreatDoor.OwnA (u64s finF fits sideB_iff)
set_option maxRecDepth 10000
set_option maxHeartbeats 16000000
attribute [local simp] Ok_true Br_true Br_false rtV exec_none exec_some opV dstB dstW upd_nil upd_cons upd1_at args0_zero args0_succ args0_nil ev cellsV isDead notSelf allCell cellB shrL shr ownsL owns ownE elems frz noLst noLstL outV_ret outV_norm retV resL resV tupV nmL nm boolV isBoolV isSkV binV unV fillV chunk sizesB sizeV List.mapIdx_cons List.mapIdx_nil List.mapIdx List.mapIdx.go List.range List.range.loop List.map_cons List.map_nil Option.isSome_some Option.isSome_none Option.getD_some Option.map_some Option.bind_some Option.map_none Option.bind_none List.append_nil List.nil_append List.cons_append List.isEmpty_nil List.isEmpty_cons Bool.and_true Bool.true_and Bool.and_false Bool.false_and Bool.or_true Bool.or_false Bool.true_or Bool.false_or Bool.not_true Bool.not_false List.length_cons List.length_nil List.take List.drop List.getD_cons_zero List.getD_cons_succ List.getElem?_cons_zero List.getElem?_cons_succ List.replicate List.flatten Wp_skip Wp_exit Wp_ret Wp_kil Wp_reg Wp_dfr Wi_nil Wi_cons Wp_seq Wp_cond Wp_block seqQ_norm seqQ_exit seqQ_ret blkQ_norm blkQ_exit blkQ_ret nrQ_norm nrQ_exit nrQ_ret lpQ_norm lpQ_exit lpQ_ret outQ_norm outQ_ret rgQ_at kilR kil1 kil kilL sets List.set_cons_zero List.set_cons_succ kilR0 frzd isFz ren renL frV frQ_norm frQ_ret retFr shrF shrFL arrV1
attribute [local simp] wrap_id
/-- THE CERTIFICATE OF A TRIANGLE, and what the law says. -/
theorem c24t (u n : Bool) (k : Int) (l b x : Mt) (ul : u64s l.l) (ub : u64s b.l) (ux : u64s x.l) : ∃ rb ro rh e off f hm eh p q g z w v h,
    D E 24 [.agg [.bool n, .bool u, .int .i64 k], encM l, encM b, encM x] = some (.tup [encR rb ro rh, .int .i64 e]) ∧ D E 10 [encM l, .bool u, .bool n] = some (.tup [encM hm, .int .i64 eh]) ∧
    D E 11 [encM hm, encM x, encM b] = some (.tup [encN off, .int .i64 f]) ∧ D E 12 [.int .i64 l.r, .int .i64 x.c, .bool u, .bool n, .int .i64 k] = some (.tup [encP p q, .int .i64 g]) ∧
    D E 8 [.int .i64 (fL l b x), .int .i64 f] = some (.int .i64 z) ∧ D E 8 [.int .i64 z, .int .i64 g] = some (.int .i64 w) ∧ D E 13 [encP p q, encM hm, encM x, .bool true, .int .i64 w] = some (.tup [encN v, .int .i64 h]) ∧
    D E 14 [encR rb ro rh, .int .i64 e, encN v, .int .i64 h, encN off] = some (.bool true) := by
  obtain ⟨hm, eh, k0, uh, lh⟩ := e10 l u n ul
  obtain ⟨off, f, k1, go, hf⟩ := e11 hm x b uh ux ub
  obtain ⟨p, q, g, k2, ip, iq⟩ := e12 l.r x.c k u n
  have k3 := d8 (fL l b x) f
  by_cases h0 : firstF [l, b, x] = 0
  · by_cases hs : l.r = l.c
    · have hF : fL l b x = 0 := by unfold fL; rw [if_neg (fun e => e.2 hs)]; exact h0
      rw [hF] at k3 ⊢
      rw [if_pos rfl] at k3
      have k4 := d8 f g
      by_cases f0 : f = 0
      · rw [if_pos f0] at k4
        subst f0
        obtain ⟨h1, h2, h3⟩ := first3 h0
        by_cases g0 : g = 0
        · subst g0
          obtain ⟨v, k5, k6, gv⟩ := c42 hm x true ip iq uh ux (lh h1) (fin_len h3)
          exact ⟨v, off, _, 0, off, 0, hm, eh, p, q, 0, 0, 0, v, 0, p24v u n k l b x hm eh off p q v ul ub ux h0 hs k0 k1 k2 k5 _ (c43 gv go), k0, k1, k2, k3, k4, k6, is_t gv go⟩
        · exact ⟨zN, zN, false, g, off, 0, hm, eh, p, q, g, 0, g, zN, g, p24g u n k l b x hm eh g off p q ul ub ux h0 hs k0 k1 k2 g0, k0, k1, k2, k3, k4, d13e hm x p q true g g0, is_f g g0 zN off⟩
      · rw [if_neg f0] at k4
        exact ⟨zN, zN, false, f, off, f, hm, eh, p, q, g, f, f, zN, f, p24f u n k l b x hm eh f off ul ub ux h0 hs k0 k1 f0, k0, k1, k2, k3, k4, d13e hm x p q true f f0, is_f f f0 zN off⟩
    · have hF : fL l b x = 11 := by unfold fL; rw [if_pos ⟨h0, hs⟩]
      rw [hF] at k3 ⊢
      rw [if_neg (by decide)] at k3
      have k4 := d8 11 g
      rw [if_neg (by decide)] at k4
      exact ⟨zN, zN, false, 11, off, f, hm, eh, p, q, g, 11, 11, zN, 11, p24q u n k l b x hm eh ul ub ux h0 hs k0, k0, k1, k2, k3, k4, d13e hm x p q true 11 (by decide), is_f 11 (by decide) zN off⟩
  · have hF : fL l b x = firstF [l, b, x] := by unfold fL; rw [if_neg (fun e => h0 e.1)]
    rw [hF] at k3 ⊢
    rw [if_neg h0] at k3
    have k4 := d8 (firstF [l, b, x]) g
    rw [if_neg h0] at k4
    exact ⟨zN, zN, false, _, off, f, hm, eh, p, q, g, _, _, zN, _, p24s u n k l b x ul ub ux h0, k0, k1, k2, k3, k4, d13e hm x p q true _ h0, is_f _ h0 zN off⟩
theorem c6l (n : Bool) (k e : Int) (l b x : Mt) (rb ro : Num) (rh : Bool) (h : D E 24 [.agg [.bool n, .bool false, .int .i64 k], encM l, encM b, encM x] = some (.tup [encR rb ro rh, .int .i64 e])) :
    D E 6 [encM l, .bool n, encM b, encM x, .int .i64 k] = some (.tup [encR rb ro rh, .int .i64 e]) := by
  refine wpE (F := ir6) (by kernel_rfl) (by kernel_rfl) ?_
  unfold encM mat encR at *
  simp [-List.map_map, ir6, h]
theorem c7u (n : Bool) (k e : Int) (l b x : Mt) (rb ro : Num) (rh : Bool) (h : D E 24 [.agg [.bool n, .bool true, .int .i64 k], encM l, encM b, encM x] = some (.tup [encR rb ro rh, .int .i64 e])) :
    D E 7 [encM l, .bool n, encM b, encM x, .int .i64 k] = some (.tup [encR rb ro rh, .int .i64 e]) := by
  refine wpE (F := ir7) (by kernel_rfl) (by kernel_rfl) ?_
  unfold encM mat encR at *
  simp [-List.map_map, ir7, h]
end Go.Proofs.YtmbdbkcifmkpbaaGreatDoor.Den
