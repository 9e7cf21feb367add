/- Parts of the proof, joined: The law of mirrors: what is not finite. The law of mirrors: what does not fit. -/
import Derived.Test.YtejmahnbecglfaaDoorCLF
section
set_option linter.unusedVariables false
set_option linter.unusedSimpArgs false
namespace Go.Proofs.YtejmahnbecglfaaDoor.Den
open Go
open Go.Proofs.YtejmahnbecglfaaDoor.OwnA (u64s finF)
set_option maxRecDepth 10000
set_option maxHeartbeats 16000000
attribute [local simp] Ok_true Br_true Br_false rtV exec_none exec_some opV dstB dstW upd_nil upd_cons upd1_at args0_zero args0_succ args0_nil ev cellsV isDead notSelf allCell cellB shrL shr ownsL owns ownE elems frz noLst noLstL outV_ret outV_norm retV resL resV tupV nmL nm boolV isBoolV isSkV binV unV fillV chunk sizesB sizeV List.mapIdx_cons List.mapIdx_nil List.mapIdx List.mapIdx.go List.range List.range.loop List.map_cons List.map_nil Option.isSome_some Option.isSome_none Option.getD_some Option.map_some Option.bind_some Option.map_none Option.bind_none List.append_nil List.nil_append List.cons_append List.isEmpty_nil List.isEmpty_cons Bool.and_true Bool.true_and Bool.and_false Bool.false_and Bool.or_true Bool.or_false Bool.true_or Bool.false_or Bool.not_true Bool.not_false List.length_cons List.length_nil List.take List.drop List.getD_cons_zero List.getD_cons_succ List.getElem?_cons_zero List.getElem?_cons_succ List.replicate List.flatten Wp_skip Wp_exit Wp_ret Wp_kil Wp_reg Wi_nil Wi_cons Wp_seq Wp_cond Wp_block seqQ_norm seqQ_exit seqQ_ret blkQ_norm blkQ_exit blkQ_ret nrQ_norm nrQ_exit nrQ_ret lpQ_norm lpQ_exit lpQ_ret outQ_norm outQ_ret rgQ_at kilR kil1 kil kilL sets List.set_cons_zero List.set_cons_succ kilR0 frzd isFz ren renL frV frQ_norm frQ_ret retFr shrF shrFL arrV1
attribute [local simp] wrap_id kil_lv
theorem c4a0 (p q yr yc tr tc rr rc : Int) (h : yr ≠ p) (al yl tl rl : List Int) (e : Int) (he : e ≠ 0) (k1 : D E 10 [.lst [mat p q al, mat yr yc yl, mat tr tc tl, mat rr rc rl]] = some (.int .i64 e)) (k2 : D E 18 [mat p q al, mat yr yc yl, mat tr tc tl, mat rr rc rl] = some (.tup [encN zN, encN zN, .int .i64 e])) :
    D E 4 [mat p q al, mat yr yc yl, mat tr tc tl, mat rr rc rl] = some (.bool true) := by
  refine wpE (F := ir4) (by kernel_rfl) (by kernel_rfl) ?_
  have k4 := c16f e he false zN
  have k0 := c6
  have he2 : (e == 0) = false := beq_eq_false_iff_ne.2 he
  have ha : ¬ yr = p := h
  have hc : (yr == p) = false := beq_eq_false_iff_ne.2 h
  unfold mat at *
  simp only [encN, enc, zN, List.map_nil] at k2 k4
  simp [-List.map_map, ir4, k0, k1, k2, k4, he, he2, h, ha, hc]
theorem c4a1 (p q yc tr tc rr rc : Int) (h : yc ≠ q) (al yl tl rl : List Int) (e : Int) (he : e ≠ 0) (k1 : D E 10 [.lst [mat p q al, mat p yc yl, mat tr tc tl, mat rr rc rl]] = some (.int .i64 e)) (k2 : D E 18 [mat p q al, mat p yc yl, mat tr tc tl, mat rr rc rl] = some (.tup [encN zN, encN zN, .int .i64 e])) :
    D E 4 [mat p q al, mat p yc yl, mat tr tc tl, mat rr rc rl] = some (.bool true) := by
  refine wpE (F := ir4) (by kernel_rfl) (by kernel_rfl) ?_
  have k4 := c16f e he false zN
  have k0 := c6
  have he2 : (e == 0) = false := beq_eq_false_iff_ne.2 he
  have ha : ¬ yc = q := h
  have hc : (yc == q) = false := beq_eq_false_iff_ne.2 h
  unfold mat at *
  simp only [encN, enc, zN, List.map_nil] at k2 k4
  simp [-List.map_map, ir4, k0, k1, k2, k4, he, he2, h, ha, hc]
theorem c4a2 (p q tr tc rr rc : Int) (h : tr ≠ q) (al yl tl rl : List Int) (e : Int) (he : e ≠ 0) (k1 : D E 10 [.lst [mat p q al, mat p q yl, mat tr tc tl, mat rr rc rl]] = some (.int .i64 e)) (k2 : D E 18 [mat p q al, mat p q yl, mat tr tc tl, mat rr rc rl] = some (.tup [encN zN, encN zN, .int .i64 e])) :
    D E 4 [mat p q al, mat p q yl, mat tr tc tl, mat rr rc rl] = some (.bool true) := by
  refine wpE (F := ir4) (by kernel_rfl) (by kernel_rfl) ?_
  have k4 := c16f e he false zN
  have k0 := c6
  have he2 : (e == 0) = false := beq_eq_false_iff_ne.2 he
  have ha : ¬ tr = q := h
  have hc : (tr == q) = false := beq_eq_false_iff_ne.2 h
  unfold mat at *
  simp only [encN, enc, zN, List.map_nil] at k2 k4
  simp [-List.map_map, ir4, k0, k1, k2, k4, he, he2, h, ha, hc]
theorem c4a3 (p q tc rr rc : Int) (h : tc ≠ q) (al yl tl rl : List Int) (e : Int) (he : e ≠ 0) (k1 : D E 10 [.lst [mat p q al, mat p q yl, mat q tc tl, mat rr rc rl]] = some (.int .i64 e)) (k2 : D E 18 [mat p q al, mat p q yl, mat q tc tl, mat rr rc rl] = some (.tup [encN zN, encN zN, .int .i64 e])) :
    D E 4 [mat p q al, mat p q yl, mat q tc tl, mat rr rc rl] = some (.bool true) := by
  refine wpE (F := ir4) (by kernel_rfl) (by kernel_rfl) ?_
  have k4 := c16f e he false zN
  have k0 := c6
  have he2 : (e == 0) = false := beq_eq_false_iff_ne.2 he
  have ha : ¬ tc = q := h
  have hc : (tc == q) = false := beq_eq_false_iff_ne.2 h
  unfold mat at *
  simp only [encN, enc, zN, List.map_nil] at k2 k4
  simp [-List.map_map, ir4, k0, k1, k2, k4, he, he2, h, ha, hc]
theorem c4a4 (p q rr rc : Int) (h : rr ≠ q) (al yl tl rl : List Int) (e : Int) (he : e ≠ 0) (k1 : D E 10 [.lst [mat p q al, mat p q yl, mat q q tl, mat rr rc rl]] = some (.int .i64 e)) (k2 : D E 18 [mat p q al, mat p q yl, mat q q tl, mat rr rc rl] = some (.tup [encN zN, encN zN, .int .i64 e])) :
    D E 4 [mat p q al, mat p q yl, mat q q tl, mat rr rc rl] = some (.bool true) := by
  refine wpE (F := ir4) (by kernel_rfl) (by kernel_rfl) ?_
  have k4 := c16f e he false zN
  have k0 := c6
  have he2 : (e == 0) = false := beq_eq_false_iff_ne.2 he
  have ha : ¬ rr = q := h
  have hc : (rr == q) = false := beq_eq_false_iff_ne.2 h
  unfold mat at *
  simp only [encN, enc, zN, List.map_nil] at k2 k4
  simp [-List.map_map, ir4, k0, k1, k2, k4, he, he2, h, ha, hc]
theorem c4a5 (p q rc : Int) (h : rc ≠ q) (al yl tl rl : List Int) (e : Int) (he : e ≠ 0) (k1 : D E 10 [.lst [mat p q al, mat p q yl, mat q q tl, mat q rc rl]] = some (.int .i64 e)) (k2 : D E 18 [mat p q al, mat p q yl, mat q q tl, mat q rc rl] = some (.tup [encN zN, encN zN, .int .i64 e])) :
    D E 4 [mat p q al, mat p q yl, mat q q tl, mat q rc rl] = some (.bool true) := by
  refine wpE (F := ir4) (by kernel_rfl) (by kernel_rfl) ?_
  have k4 := c16f e he false zN
  have k0 := c6
  have he2 : (e == 0) = false := beq_eq_false_iff_ne.2 he
  have ha : ¬ rc = q := h
  have hc : (rc == q) = false := beq_eq_false_iff_ne.2 h
  unfold mat at *
  simp only [encN, enc, zN, List.map_nil] at k2 k4
  simp [-List.map_map, ir4, k0, k1, k2, k4, he, he2, h, ha, hc]
theorem c4a6 (p q : Int) (h : p < q) (al yl tl rl : List Int) (e : Int) (he : e ≠ 0) (k1 : D E 10 [.lst [mat p q al, mat p q yl, mat q q tl, mat q q rl]] = some (.int .i64 e)) (k2 : D E 18 [mat p q al, mat p q yl, mat q q tl, mat q q rl] = some (.tup [encN zN, encN zN, .int .i64 e])) :
    D E 4 [mat p q al, mat p q yl, mat q q tl, mat q q rl] = some (.bool true) := by
  refine wpE (F := ir4) (by kernel_rfl) (by kernel_rfl) ?_
  have k4 := c16f e he false zN
  have k0 := c6
  have he2 : (e == 0) = false := beq_eq_false_iff_ne.2 he
  have ha : ¬ p ≥ q := by omega
  have hb : ¬ q ≤ p := by omega
  unfold mat at *
  simp only [encN, enc, zN, List.map_nil] at k2 k4
  simp [-List.map_map, ir4, k0, k1, k2, k4, he, he2, h, ha, hb]
theorem c4a7 (p q : Int) (h : q ≤ p) (al yl tl rl : List Int) (e : Int) (he : e ≠ 0) (k1 : D E 10 [.lst [mat p q al, mat p q yl, mat q q tl, mat q q rl]] = some (.int .i64 e)) (k2 : D E 18 [mat p q al, mat p q yl, mat q q tl, mat q q rl] = some (.tup [encN zN, encN zN, .int .i64 e])) :
    D E 4 [mat p q al, mat p q yl, mat q q tl, mat q q rl] = some (.bool true) := by
  refine wpE (F := ir4) (by kernel_rfl) (by kernel_rfl) ?_
  have k4 := c16f e he true zN
  have k0 := c6
  have he2 : (e == 0) = false := beq_eq_false_iff_ne.2 he
  have ha : ¬ p < q := by omega
  have hb : p ≥ q := h
  unfold mat at *
  simp only [encN, enc, zN, List.map_nil] at k2 k4
  simp [-List.map_map, ir4, k0, k1, k2, k4, he, he2, h, ha, hb]
end Go.Proofs.YtejmahnbecglfaaDoor.Den
end
section
set_option linter.unusedVariables false
set_option linter.unusedSimpArgs false
namespace Go.Proofs.YtejmahnbecglfaaDoor.Den
open Go
open Go.Proofs.YtejmahnbecglfaaDoor.OwnA (u64s finF)
set_option maxRecDepth 10000
set_option maxHeartbeats 16000000
attribute [local simp] Ok_true Br_true Br_false rtV exec_none exec_some opV dstB dstW upd_nil upd_cons upd1_at args0_zero args0_succ args0_nil ev cellsV isDead notSelf allCell cellB shrL shr ownsL owns ownE elems frz noLst noLstL outV_ret outV_norm retV resL resV tupV nmL nm boolV isBoolV isSkV binV unV fillV chunk sizesB sizeV List.mapIdx_cons List.mapIdx_nil List.mapIdx List.mapIdx.go List.range List.range.loop List.map_cons List.map_nil Option.isSome_some Option.isSome_none Option.getD_some Option.map_some Option.bind_some Option.map_none Option.bind_none List.append_nil List.nil_append List.cons_append List.isEmpty_nil List.isEmpty_cons Bool.and_true Bool.true_and Bool.and_false Bool.false_and Bool.or_true Bool.or_false Bool.true_or Bool.false_or Bool.not_true Bool.not_false List.length_cons List.length_nil List.take List.drop List.getD_cons_zero List.getD_cons_succ List.getElem?_cons_zero List.getElem?_cons_succ List.replicate List.flatten Wp_skip Wp_exit Wp_ret Wp_kil Wp_reg Wi_nil Wi_cons Wp_seq Wp_cond Wp_block seqQ_norm seqQ_exit seqQ_ret blkQ_norm blkQ_exit blkQ_ret nrQ_norm nrQ_exit nrQ_ret lpQ_norm lpQ_exit lpQ_ret outQ_norm outQ_ret rgQ_at kilR kil1 kil kilL sets List.set_cons_zero List.set_cons_succ kilR0 frzd isFz ren renL frV frQ_norm frQ_ret retFr shrF shrFL arrV1
attribute [local simp] wrap_id kil_lv
theorem c4b0 (p q yr yc tr tc rr rc : Int) (h : yr ≠ p) (al yl tl rl : List Int) (k1 : D E 10 [.lst [mat p q al, mat yr yc yl, mat tr tc tl, mat rr rc rl]] = some (.int .i64 0)) (k2 : D E 18 [mat p q al, mat yr yc yl, mat tr tc tl, mat rr rc rl] = some (.tup [encN zN, encN zN, .int .i64 11])) :
    D E 4 [mat p q al, mat yr yc yl, mat tr tc tl, mat rr rc rl] = some (.bool true) := by
  refine wpE (F := ir4) (by kernel_rfl) (by kernel_rfl) ?_
  have k4 := c16o zN
  have k0 := c6
  have ha : ¬ yr = p := h
  have hc : (yr == p) = false := beq_eq_false_iff_ne.2 h
  unfold mat at *
  simp only [encN, enc, zN, List.map_nil] at k2 k4
  simp [-List.map_map, ir4, k0, k1, k2, k4, h, ha, hc]
theorem c4b1 (p q yc tr tc rr rc : Int) (h : yc ≠ q) (al yl tl rl : List Int) (k1 : D E 10 [.lst [mat p q al, mat p yc yl, mat tr tc tl, mat rr rc rl]] = some (.int .i64 0)) (k2 : D E 18 [mat p q al, mat p yc yl, mat tr tc tl, mat rr rc rl] = some (.tup [encN zN, encN zN, .int .i64 11])) :
    D E 4 [mat p q al, mat p yc yl, mat tr tc tl, mat rr rc rl] = some (.bool true) := by
  refine wpE (F := ir4) (by kernel_rfl) (by kernel_rfl) ?_
  have k4 := c16o zN
  have k0 := c6
  have ha : ¬ yc = q := h
  have hc : (yc == q) = false := beq_eq_false_iff_ne.2 h
  unfold mat at *
  simp only [encN, enc, zN, List.map_nil] at k2 k4
  simp [-List.map_map, ir4, k0, k1, k2, k4, h, ha, hc]
theorem c4b2 (p q tr tc rr rc : Int) (h : tr ≠ q) (al yl tl rl : List Int) (k1 : D E 10 [.lst [mat p q al, mat p q yl, mat tr tc tl, mat rr rc rl]] = some (.int .i64 0)) (k2 : D E 18 [mat p q al, mat p q yl, mat tr tc tl, mat rr rc rl] = some (.tup [encN zN, encN zN, .int .i64 11])) :
    D E 4 [mat p q al, mat p q yl, mat tr tc tl, mat rr rc rl] = some (.bool true) := by
  refine wpE (F := ir4) (by kernel_rfl) (by kernel_rfl) ?_
  have k4 := c16o zN
  have k0 := c6
  have ha : ¬ tr = q := h
  have hc : (tr == q) = false := beq_eq_false_iff_ne.2 h
  unfold mat at *
  simp only [encN, enc, zN, List.map_nil] at k2 k4
  simp [-List.map_map, ir4, k0, k1, k2, k4, h, ha, hc]
theorem c4b3 (p q tc rr rc : Int) (h : tc ≠ q) (al yl tl rl : List Int) (k1 : D E 10 [.lst [mat p q al, mat p q yl, mat q tc tl, mat rr rc rl]] = some (.int .i64 0)) (k2 : D E 18 [mat p q al, mat p q yl, mat q tc tl, mat rr rc rl] = some (.tup [encN zN, encN zN, .int .i64 11])) :
    D E 4 [mat p q al, mat p q yl, mat q tc tl, mat rr rc rl] = some (.bool true) := by
  refine wpE (F := ir4) (by kernel_rfl) (by kernel_rfl) ?_
  have k4 := c16o zN
  have k0 := c6
  have ha : ¬ tc = q := h
  have hc : (tc == q) = false := beq_eq_false_iff_ne.2 h
  unfold mat at *
  simp only [encN, enc, zN, List.map_nil] at k2 k4
  simp [-List.map_map, ir4, k0, k1, k2, k4, h, ha, hc]
theorem c4b4 (p q rr rc : Int) (h : rr ≠ q) (al yl tl rl : List Int) (k1 : D E 10 [.lst [mat p q al, mat p q yl, mat q q tl, mat rr rc rl]] = some (.int .i64 0)) (k2 : D E 18 [mat p q al, mat p q yl, mat q q tl, mat rr rc rl] = some (.tup [encN zN, encN zN, .int .i64 11])) :
    D E 4 [mat p q al, mat p q yl, mat q q tl, mat rr rc rl] = some (.bool true) := by
  refine wpE (F := ir4) (by kernel_rfl) (by kernel_rfl) ?_
  have k4 := c16o zN
  have k0 := c6
  have ha : ¬ rr = q := h
  have hc : (rr == q) = false := beq_eq_false_iff_ne.2 h
  unfold mat at *
  simp only [encN, enc, zN, List.map_nil] at k2 k4
  simp [-List.map_map, ir4, k0, k1, k2, k4, h, ha, hc]
theorem c4b5 (p q rc : Int) (h : rc ≠ q) (al yl tl rl : List Int) (k1 : D E 10 [.lst [mat p q al, mat p q yl, mat q q tl, mat q rc rl]] = some (.int .i64 0)) (k2 : D E 18 [mat p q al, mat p q yl, mat q q tl, mat q rc rl] = some (.tup [encN zN, encN zN, .int .i64 11])) :
    D E 4 [mat p q al, mat p q yl, mat q q tl, mat q rc rl] = some (.bool true) := by
  refine wpE (F := ir4) (by kernel_rfl) (by kernel_rfl) ?_
  have k4 := c16o zN
  have k0 := c6
  have ha : ¬ rc = q := h
  have hc : (rc == q) = false := beq_eq_false_iff_ne.2 h
  unfold mat at *
  simp only [encN, enc, zN, List.map_nil] at k2 k4
  simp [-List.map_map, ir4, k0, k1, k2, k4, h, ha, hc]
theorem c4b6 (p q : Int) (h : p < q) (al yl tl rl : List Int) (k1 : D E 10 [.lst [mat p q al, mat p q yl, mat q q tl, mat q q rl]] = some (.int .i64 0)) (k2 : D E 18 [mat p q al, mat p q yl, mat q q tl, mat q q rl] = some (.tup [encN zN, encN zN, .int .i64 11])) :
    D E 4 [mat p q al, mat p q yl, mat q q tl, mat q q rl] = some (.bool true) := by
  refine wpE (F := ir4) (by kernel_rfl) (by kernel_rfl) ?_
  have k4 := c16o zN
  have k0 := c6
  have ha : ¬ p ≥ q := by omega
  have hb : ¬ q ≤ p := by omega
  unfold mat at *
  simp only [encN, enc, zN, List.map_nil] at k2 k4
  simp [-List.map_map, ir4, k0, k1, k2, k4, h, ha, hb]
end Go.Proofs.YtejmahnbecglfaaDoor.Den
end
