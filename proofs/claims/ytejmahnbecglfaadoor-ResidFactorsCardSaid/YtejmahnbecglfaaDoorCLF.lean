/- Parts of the proof, joined: The law of triangles: what is not finite. The law of triangles: what does not fit. The law of triangles: squares. The law of triangles: rows that may not change places; more rows than columns. The law of triangles, joined. -/
import Derived.Test.YtejmahnbecglfaaDoorCLE
section
set_option linter.unusedVariables false
set_option linter.unusedSimpArgs false
namespace Go.Proofs.YtejmahnbecglfaaDoor.Den
open Go
open Go.Proofs.YtejmahnbecglfaaDoor.OwnA (u64s finF)
set_option maxRecDepth 10000
set_option maxHeartbeats 8000000
attribute [local simp] Ok_true Br_true Br_false rtV exec_none exec_some opV dstB dstW upd_nil upd_cons upd1_at args0_zero args0_succ args0_nil ev cellsV isDead notSelf allCell cellB shrL shr ownsL owns ownE elems frz noLst noLstL outV_ret outV_norm retV resL resV tupV nmL nm boolV isBoolV isSkV binV unV fillV chunk sizesB sizeV List.mapIdx_cons List.mapIdx_nil List.mapIdx List.mapIdx.go List.range List.range.loop List.map_cons List.map_nil Option.isSome_some Option.isSome_none Option.getD_some Option.map_some Option.bind_some Option.map_none Option.bind_none List.append_nil List.nil_append List.cons_append List.isEmpty_nil List.isEmpty_cons Bool.and_true Bool.true_and Bool.and_false Bool.false_and Bool.or_true Bool.or_false Bool.true_or Bool.false_or Bool.not_true Bool.not_false List.length_cons List.length_nil List.take List.drop List.getD_cons_zero List.getD_cons_succ List.getElem?_cons_zero List.getElem?_cons_succ List.replicate List.flatten Wp_skip Wp_exit Wp_ret Wp_kil Wp_reg Wi_nil Wi_cons Wp_seq Wp_cond Wp_block seqQ_norm seqQ_exit seqQ_ret blkQ_norm blkQ_exit blkQ_ret nrQ_norm nrQ_exit nrQ_ret lpQ_norm lpQ_exit lpQ_ret outQ_norm outQ_ret rgQ_at kilR kil1 kil kilL sets List.set_cons_zero List.set_cons_succ kilR0 frzd isFz ren renL frV frQ_norm frQ_ret retFr shrF shrFL arrV1
attribute [local simp] wrap_id kil_lv
theorem c5a1 (n : Int)  (al fl : List Int) (s : List Int) (e : Int) (he : e ≠ 0)
    (k1 : D E 10 [.lst [mat n n al, mat n n fl]] = some (.int .i64 e)) (k2 : D E 22 [mat n n al, mat n n fl, sws s] = some (.tup [encN zN, .int .i64 e])) (k3 : D E 23 [mat n n al, mat n n fl] = some (.tup [encN zN, .int .i64 e])) :
    D E 5 [mat n n al, mat n n fl, sws s] = some (.bool true) := by
  refine wpE (F := ir5) (by kernel_rfl) (by kernel_rfl) ?_
  have k4 := c16f e he true zN
  have k5 := c16f e he true zN
  have k0 := c6
  have he2 : (e == 0) = false := beq_eq_false_iff_ne.2 he
  unfold mat sws at *
  simp only [encN, enc, zN, List.map_nil] at k2 k3 k4 k5
  simp [-List.map_map, ir5, k0, k1, k2, k3, k4, k5, he, he2]
theorem c5a2 (p q r t : Int) (h0 : p ≠ q) (h1 : p ≠ r) (al fl : List Int) (s : List Int) (e : Int) (he : e ≠ 0)
    (k1 : D E 10 [.lst [mat p q al, mat r t fl]] = some (.int .i64 e)) (k2 : D E 22 [mat p q al, mat r t fl, sws s] = some (.tup [encN zN, .int .i64 e])) (k3 : D E 23 [mat p q al, mat r t fl] = some (.tup [encN zN, .int .i64 e])) :
    D E 5 [mat p q al, mat r t fl, sws s] = some (.bool true) := by
  refine wpE (F := ir5) (by kernel_rfl) (by kernel_rfl) ?_
  have k4 := c16f e he false zN
  have k5 := c16f e he false zN
  have k0 := c6
  have he2 : (e == 0) = false := beq_eq_false_iff_ne.2 he
  have h0a : ¬ p = q := h0
  have h0b : ¬ q = p := fun e => h0 e.symm
  have h0c : (p == q) = false := beq_eq_false_iff_ne.2 h0
  have h0d : (q == p) = false := beq_eq_false_iff_ne.2 (Ne.symm h0)
  have h1a : ¬ p = r := h1
  have h1b : ¬ r = p := fun e => h1 e.symm
  have h1c : (p == r) = false := beq_eq_false_iff_ne.2 h1
  have h1d : (r == p) = false := beq_eq_false_iff_ne.2 (Ne.symm h1)
  unfold mat sws at *
  simp only [encN, enc, zN, List.map_nil] at k2 k3 k4 k5
  simp [-List.map_map, ir5, k0, k1, k2, k3, k4, k5, he, he2, h0a, h0b, h0c, h0d, h1a, h1b, h1c, h1d]
theorem c5a3 (p q t : Int) (h0 : p ≠ q) (h1 : q ≠ t) (al fl : List Int) (s : List Int) (e : Int) (he : e ≠ 0)
    (k1 : D E 10 [.lst [mat p q al, mat p t fl]] = some (.int .i64 e)) (k2 : D E 22 [mat p q al, mat p t fl, sws s] = some (.tup [encN zN, .int .i64 e])) (k3 : D E 23 [mat p q al, mat p t fl] = some (.tup [encN zN, .int .i64 e])) :
    D E 5 [mat p q al, mat p t fl, sws s] = some (.bool true) := by
  refine wpE (F := ir5) (by kernel_rfl) (by kernel_rfl) ?_
  have k4 := c16f e he false zN
  have k5 := c16f e he false zN
  have k0 := c6
  have he2 : (e == 0) = false := beq_eq_false_iff_ne.2 he
  have h0a : ¬ p = q := h0
  have h0b : ¬ q = p := fun e => h0 e.symm
  have h0c : (p == q) = false := beq_eq_false_iff_ne.2 h0
  have h0d : (q == p) = false := beq_eq_false_iff_ne.2 (Ne.symm h0)
  have h1a : ¬ q = t := h1
  have h1b : ¬ t = q := fun e => h1 e.symm
  have h1c : (q == t) = false := beq_eq_false_iff_ne.2 h1
  have h1d : (t == q) = false := beq_eq_false_iff_ne.2 (Ne.symm h1)
  unfold mat sws at *
  simp only [encN, enc, zN, List.map_nil] at k2 k3 k4 k5
  simp [-List.map_map, ir5, k0, k1, k2, k3, k4, k5, he, he2, h0a, h0b, h0c, h0d, h1a, h1b, h1c, h1d]
theorem c5a4 (p q : Int) (h0 : p ≠ q) (h1 : p < q) (al fl : List Int) (s : List Int) (e : Int) (he : e ≠ 0)
    (k1 : D E 10 [.lst [mat p q al, mat p q fl]] = some (.int .i64 e)) (k2 : D E 22 [mat p q al, mat p q fl, sws s] = some (.tup [encN zN, .int .i64 e])) (k3 : D E 23 [mat p q al, mat p q fl] = some (.tup [encN zN, .int .i64 e])) :
    D E 5 [mat p q al, mat p q fl, sws s] = some (.bool true) := by
  refine wpE (F := ir5) (by kernel_rfl) (by kernel_rfl) ?_
  have k4 := c16f e he false zN
  have k5 := c16f e he false zN
  have k0 := c6
  have he2 : (e == 0) = false := beq_eq_false_iff_ne.2 he
  have h0a : ¬ p = q := h0
  have h0b : ¬ q = p := fun e => h0 e.symm
  have h0c : (p == q) = false := beq_eq_false_iff_ne.2 h0
  have h0d : (q == p) = false := beq_eq_false_iff_ne.2 (Ne.symm h0)
  have h1a : ¬ p ≥ q := by omega
  have h1b : ¬ q ≤ p := by omega
  have h1c : p ≤ q := by omega
  unfold mat sws at *
  simp only [encN, enc, zN, List.map_nil] at k2 k3 k4 k5
  simp [-List.map_map, ir5, k0, k1, k2, k3, k4, k5, he, he2, h0a, h0b, h0c, h0d, h1, h1a, h1b, h1c]
theorem c5a5 (p q : Int) (h0 : p ≠ q) (h1 : q < p) (al fl : List Int) (s : List Int) (e : Int) (he : e ≠ 0)
    (k1 : D E 10 [.lst [mat p q al, mat p q fl]] = some (.int .i64 e)) (k2 : D E 22 [mat p q al, mat p q fl, sws s] = some (.tup [encN zN, .int .i64 e])) (k3 : D E 23 [mat p q al, mat p q fl] = some (.tup [encN zN, .int .i64 e])) :
    D E 5 [mat p q al, mat p q fl, sws s] = some (.bool true) := by
  refine wpE (F := ir5) (by kernel_rfl) (by kernel_rfl) ?_
  have k4 := c16f e he false zN
  have k5 := c16f e he true zN
  have k0 := c6
  have he2 : (e == 0) = false := beq_eq_false_iff_ne.2 he
  have h0a : ¬ p = q := h0
  have h0b : ¬ q = p := fun e => h0 e.symm
  have h0c : (p == q) = false := beq_eq_false_iff_ne.2 h0
  have h0d : (q == p) = false := beq_eq_false_iff_ne.2 (Ne.symm h0)
  have h1a : ¬ q ≥ p := by omega
  have h1b : ¬ p ≤ q := by omega
  have h1c : q ≤ p := by omega
  unfold mat sws at *
  simp only [encN, enc, zN, List.map_nil] at k2 k3 k4 k5
  simp [-List.map_map, ir5, k0, k1, k2, k3, k4, k5, he, he2, h0a, h0b, h0c, h0d, h1, h1a, h1b, h1c]
theorem c5a6 (p r t : Int) (h0 : r ≠ p) (al fl : List Int) (s : List Int) (e : Int) (he : e ≠ 0)
    (k1 : D E 10 [.lst [mat p p al, mat r t fl]] = some (.int .i64 e)) (k2 : D E 22 [mat p p al, mat r t fl, sws s] = some (.tup [encN zN, .int .i64 e])) (k3 : D E 23 [mat p p al, mat r t fl] = some (.tup [encN zN, .int .i64 e])) :
    D E 5 [mat p p al, mat r t fl, sws s] = some (.bool true) := by
  refine wpE (F := ir5) (by kernel_rfl) (by kernel_rfl) ?_
  have k4 := c16f e he false zN
  have k5 := c16f e he false zN
  have k0 := c6
  have he2 : (e == 0) = false := beq_eq_false_iff_ne.2 he
  have h0a : ¬ r = p := h0
  have h0b : ¬ p = r := fun e => h0 e.symm
  have h0c : (r == p) = false := beq_eq_false_iff_ne.2 h0
  have h0d : (p == r) = false := beq_eq_false_iff_ne.2 (Ne.symm h0)
  unfold mat sws at *
  simp only [encN, enc, zN, List.map_nil] at k2 k3 k4 k5
  simp [-List.map_map, ir5, k0, k1, k2, k3, k4, k5, he, he2, h0a, h0b, h0c, h0d]
theorem c5a7 (p t : Int) (h0 : t ≠ p) (al fl : List Int) (s : List Int) (e : Int) (he : e ≠ 0)
    (k1 : D E 10 [.lst [mat p p al, mat p t fl]] = some (.int .i64 e)) (k2 : D E 22 [mat p p al, mat p t fl, sws s] = some (.tup [encN zN, .int .i64 e])) (k3 : D E 23 [mat p p al, mat p t fl] = some (.tup [encN zN, .int .i64 e])) :
    D E 5 [mat p p al, mat p t fl, sws s] = some (.bool true) := by
  refine wpE (F := ir5) (by kernel_rfl) (by kernel_rfl) ?_
  have k4 := c16f e he false zN
  have k5 := c16f e he false zN
  have k0 := c6
  have he2 : (e == 0) = false := beq_eq_false_iff_ne.2 he
  have h0a : ¬ t = p := h0
  have h0b : ¬ p = t := fun e => h0 e.symm
  have h0c : (t == p) = false := beq_eq_false_iff_ne.2 h0
  have h0d : (p == t) = false := beq_eq_false_iff_ne.2 (Ne.symm h0)
  unfold mat sws at *
  simp only [encN, enc, zN, List.map_nil] at k2 k3 k4 k5
  simp [-List.map_map, ir5, k0, k1, k2, k3, k4, k5, he, he2, h0a, h0b, h0c, h0d]
end Go.Proofs.YtejmahnbecglfaaDoor.Den
end
section
set_option linter.unusedVariables false
set_option linter.unusedSimpArgs false
namespace Go.Proofs.YtejmahnbecglfaaDoor.Den
open Go
open Go.Proofs.YtejmahnbecglfaaDoor.OwnA (u64s finF)
set_option maxRecDepth 10000
set_option maxHeartbeats 8000000
attribute [local simp] Ok_true Br_true Br_false rtV exec_none exec_some opV dstB dstW upd_nil upd_cons upd1_at args0_zero args0_succ args0_nil ev cellsV isDead notSelf allCell cellB shrL shr ownsL owns ownE elems frz noLst noLstL outV_ret outV_norm retV resL resV tupV nmL nm boolV isBoolV isSkV binV unV fillV chunk sizesB sizeV List.mapIdx_cons List.mapIdx_nil List.mapIdx List.mapIdx.go List.range List.range.loop List.map_cons List.map_nil Option.isSome_some Option.isSome_none Option.getD_some Option.map_some Option.bind_some Option.map_none Option.bind_none List.append_nil List.nil_append List.cons_append List.isEmpty_nil List.isEmpty_cons Bool.and_true Bool.true_and Bool.and_false Bool.false_and Bool.or_true Bool.or_false Bool.true_or Bool.false_or Bool.not_true Bool.not_false List.length_cons List.length_nil List.take List.drop List.getD_cons_zero List.getD_cons_succ List.getElem?_cons_zero List.getElem?_cons_succ List.replicate List.flatten Wp_skip Wp_exit Wp_ret Wp_kil Wp_reg Wi_nil Wi_cons Wp_seq Wp_cond Wp_block seqQ_norm seqQ_exit seqQ_ret blkQ_norm blkQ_exit blkQ_ret nrQ_norm nrQ_exit nrQ_ret lpQ_norm lpQ_exit lpQ_ret outQ_norm outQ_ret rgQ_at kilR kil1 kil kilL sets List.set_cons_zero List.set_cons_succ kilR0 frzd isFz ren renL frV frQ_norm frQ_ret retFr shrF shrFL arrV1
attribute [local simp] wrap_id kil_lv
theorem c5b2 (p q r t : Int) (h0 : p ≠ q) (h1 : p ≠ r) (al fl : List Int) (s : List Int)
    (k1 : D E 10 [.lst [mat p q al, mat r t fl]] = some (.int .i64 0)) (k2 : D E 22 [mat p q al, mat r t fl, sws s] = some (.tup [encN zN, .int .i64 11])) (k3 : D E 23 [mat p q al, mat r t fl] = some (.tup [encN zN, .int .i64 11])) :
    D E 5 [mat p q al, mat r t fl, sws s] = some (.bool true) := by
  refine wpE (F := ir5) (by kernel_rfl) (by kernel_rfl) ?_
  have k4 := c16o zN
  have k0 := c6
  have h0a : ¬ p = q := h0
  have h0b : ¬ q = p := fun e => h0 e.symm
  have h0c : (p == q) = false := beq_eq_false_iff_ne.2 h0
  have h0d : (q == p) = false := beq_eq_false_iff_ne.2 (Ne.symm h0)
  have h1a : ¬ p = r := h1
  have h1b : ¬ r = p := fun e => h1 e.symm
  have h1c : (p == r) = false := beq_eq_false_iff_ne.2 h1
  have h1d : (r == p) = false := beq_eq_false_iff_ne.2 (Ne.symm h1)
  unfold mat sws at *
  simp only [encN, enc, zN, List.map_nil] at k2 k3 k4
  simp [-List.map_map, ir5, k0, k1, k2, k3, k4, h0a, h0b, h0c, h0d, h1a, h1b, h1c, h1d]
theorem c5b3 (p q t : Int) (h0 : p ≠ q) (h1 : q ≠ t) (al fl : List Int) (s : List Int)
    (k1 : D E 10 [.lst [mat p q al, mat p t fl]] = some (.int .i64 0)) (k2 : D E 22 [mat p q al, mat p t fl, sws s] = some (.tup [encN zN, .int .i64 11])) (k3 : D E 23 [mat p q al, mat p t fl] = some (.tup [encN zN, .int .i64 11])) :
    D E 5 [mat p q al, mat p t fl, sws s] = some (.bool true) := by
  refine wpE (F := ir5) (by kernel_rfl) (by kernel_rfl) ?_
  have k4 := c16o zN
  have k0 := c6
  have h0a : ¬ p = q := h0
  have h0b : ¬ q = p := fun e => h0 e.symm
  have h0c : (p == q) = false := beq_eq_false_iff_ne.2 h0
  have h0d : (q == p) = false := beq_eq_false_iff_ne.2 (Ne.symm h0)
  have h1a : ¬ q = t := h1
  have h1b : ¬ t = q := fun e => h1 e.symm
  have h1c : (q == t) = false := beq_eq_false_iff_ne.2 h1
  have h1d : (t == q) = false := beq_eq_false_iff_ne.2 (Ne.symm h1)
  unfold mat sws at *
  simp only [encN, enc, zN, List.map_nil] at k2 k3 k4
  simp [-List.map_map, ir5, k0, k1, k2, k3, k4, h0a, h0b, h0c, h0d, h1a, h1b, h1c, h1d]
theorem c5b4 (p q : Int) (h0 : p ≠ q) (h1 : p < q) (al fl : List Int) (s : List Int)
    (k1 : D E 10 [.lst [mat p q al, mat p q fl]] = some (.int .i64 0)) (k2 : D E 22 [mat p q al, mat p q fl, sws s] = some (.tup [encN zN, .int .i64 11])) (k3 : D E 23 [mat p q al, mat p q fl] = some (.tup [encN zN, .int .i64 11])) :
    D E 5 [mat p q al, mat p q fl, sws s] = some (.bool true) := by
  refine wpE (F := ir5) (by kernel_rfl) (by kernel_rfl) ?_
  have k4 := c16o zN
  have k0 := c6
  have h0a : ¬ p = q := h0
  have h0b : ¬ q = p := fun e => h0 e.symm
  have h0c : (p == q) = false := beq_eq_false_iff_ne.2 h0
  have h0d : (q == p) = false := beq_eq_false_iff_ne.2 (Ne.symm h0)
  have h1a : ¬ p ≥ q := by omega
  have h1b : ¬ q ≤ p := by omega
  have h1c : p ≤ q := by omega
  unfold mat sws at *
  simp only [encN, enc, zN, List.map_nil] at k2 k3 k4
  simp [-List.map_map, ir5, k0, k1, k2, k3, k4, h0a, h0b, h0c, h0d, h1, h1a, h1b, h1c]
theorem c5b6 (p r t : Int) (h0 : r ≠ p) (al fl : List Int) (s : List Int)
    (k1 : D E 10 [.lst [mat p p al, mat r t fl]] = some (.int .i64 0)) (k2 : D E 22 [mat p p al, mat r t fl, sws s] = some (.tup [encN zN, .int .i64 11])) (k3 : D E 23 [mat p p al, mat r t fl] = some (.tup [encN zN, .int .i64 11])) :
    D E 5 [mat p p al, mat r t fl, sws s] = some (.bool true) := by
  refine wpE (F := ir5) (by kernel_rfl) (by kernel_rfl) ?_
  have k4 := c16o zN
  have k0 := c6
  have h0a : ¬ r = p := h0
  have h0b : ¬ p = r := fun e => h0 e.symm
  have h0c : (r == p) = false := beq_eq_false_iff_ne.2 h0
  have h0d : (p == r) = false := beq_eq_false_iff_ne.2 (Ne.symm h0)
  unfold mat sws at *
  simp only [encN, enc, zN, List.map_nil] at k2 k3 k4
  simp [-List.map_map, ir5, k0, k1, k2, k3, k4, h0a, h0b, h0c, h0d]
theorem c5b7 (p t : Int) (h0 : t ≠ p) (al fl : List Int) (s : List Int)
    (k1 : D E 10 [.lst [mat p p al, mat p t fl]] = some (.int .i64 0)) (k2 : D E 22 [mat p p al, mat p t fl, sws s] = some (.tup [encN zN, .int .i64 11])) (k3 : D E 23 [mat p p al, mat p t fl] = some (.tup [encN zN, .int .i64 11])) :
    D E 5 [mat p p al, mat p t fl, sws s] = some (.bool true) := by
  refine wpE (F := ir5) (by kernel_rfl) (by kernel_rfl) ?_
  have k4 := c16o zN
  have k0 := c6
  have h0a : ¬ t = p := h0
  have h0b : ¬ p = t := fun e => h0 e.symm
  have h0c : (t == p) = false := beq_eq_false_iff_ne.2 h0
  have h0d : (p == t) = false := beq_eq_false_iff_ne.2 (Ne.symm h0)
  unfold mat sws at *
  simp only [encN, enc, zN, List.map_nil] at k2 k3 k4
  simp [-List.map_map, ir5, k0, k1, k2, k3, k4, h0a, h0b, h0c, h0d]
end Go.Proofs.YtejmahnbecglfaaDoor.Den
end
section
set_option linter.unusedVariables false
set_option linter.unusedSimpArgs false
namespace Go.Proofs.YtejmahnbecglfaaDoor.Den
open Go
open Go.Proofs.YtejmahnbecglfaaDoor.OwnA (u64s finF)
set_option maxRecDepth 10000
set_option maxHeartbeats 8000000
attribute [local simp] Ok_true Br_true Br_false rtV exec_none exec_some opV dstB dstW upd_nil upd_cons upd1_at args0_zero args0_succ args0_nil ev cellsV isDead notSelf allCell cellB shrL shr ownsL owns ownE elems frz noLst noLstL outV_ret outV_norm retV resL resV tupV nmL nm boolV isBoolV isSkV binV unV fillV chunk sizesB sizeV List.mapIdx_cons List.mapIdx_nil List.mapIdx List.mapIdx.go List.range List.range.loop List.map_cons List.map_nil Option.isSome_some Option.isSome_none Option.getD_some Option.map_some Option.bind_some Option.map_none Option.bind_none List.append_nil List.nil_append List.cons_append List.isEmpty_nil List.isEmpty_cons Bool.and_true Bool.true_and Bool.and_false Bool.false_and Bool.or_true Bool.or_false Bool.true_or Bool.false_or Bool.not_true Bool.not_false List.length_cons List.length_nil List.take List.drop List.getD_cons_zero List.getD_cons_succ List.getElem?_cons_zero List.getElem?_cons_succ List.replicate List.flatten Wp_skip Wp_exit Wp_ret Wp_kil Wp_reg Wi_nil Wi_cons Wp_seq Wp_cond Wp_block seqQ_norm seqQ_exit seqQ_ret blkQ_norm blkQ_exit blkQ_ret nrQ_norm nrQ_exit nrQ_ret lpQ_norm lpQ_exit lpQ_ret outQ_norm outQ_ret rgQ_at kilR kil1 kil kilL sets List.set_cons_zero List.set_cons_succ kilR0 frzd isFz ren renL frV frQ_norm frQ_ret retFr shrF shrFL arrV1
attribute [local simp] wrap_id kil_lv
theorem c5c1 (n : Int) (al fl pl ll ul : List Int) (s : List Int) (GA GF GT GC GP GL GU GM : List Num) (X Y : Num)
    (k1 : D E 10 [.lst [mat n n al, mat n n fl]] = some (.int .i64 0)) (k2 : D E 22 [mat n n al, mat n n fl, sws s] = some (.tup [encN X, .int .i64 0])) (k3 : D E 23 [mat n n al, mat n n fl] = some (.tup [encN Y, .int .i64 0]))
    (k4 : D E 14 [mat n n al] = some (grd n n GA)) (k5 : D E 14 [mat n n fl] = some (grd n n GF)) (k6 : D E 19 [grd n n GF] = some (grd n n GT)) (k7 : D E 15 [grd n n GF, grd n n GT] = some (grd n n GC)) (k8 : D E 13 [grd n n GA, grd n n GC] = some (encN Y))
    (k9 : D E 16 [encN Y, .int .i64 0, .int .i64 0, .bool true, encN Y] = some (.bool true))
    (m1 : D E 24 [mat n n al, sws s] = some (.tup [mat n n pl, .int .i64 0])) (m2 : D E 25 [mat n n fl] = some (.tup [mat n n ll, mat n n ul, .int .i64 0]))
    (m3 : D E 14 [mat n n pl] = some (grd n n GP)) (m4 : D E 14 [mat n n ll] = some (grd n n GL)) (m5 : D E 14 [mat n n ul] = some (grd n n GU)) (m6 : D E 15 [grd n n GL, grd n n GU] = some (grd n n GM)) (m7 : D E 13 [grd n n GP, grd n n GM] = some (encN X))
    (m8 : D E 16 [encN X, .int .i64 0, .int .i64 0, .bool true, encN X] = some (.bool true)) :
    D E 5 [mat n n al, mat n n fl, sws s] = some (.bool true) := by
  refine wpE (F := ir5) (by kernel_rfl) (by kernel_rfl) ?_
  have k0 := c6
  unfold mat sws grd at *
  simp only [encN, enc] at k2 k3 k8 k9 m7 m8
  simp [-List.map_map, ir5, k0, k1, k2, k3, k4, k5, k6, k7, k8, k9, m1, m2, m3, m4, m5, m6, m7, m8, encN, enc]
end Go.Proofs.YtejmahnbecglfaaDoor.Den
end
section
set_option linter.unusedVariables false
set_option linter.unusedSimpArgs false
namespace Go.Proofs.YtejmahnbecglfaaDoor.Den
open Go
open Go.Proofs.YtejmahnbecglfaaDoor.OwnA (u64s finF)
set_option maxRecDepth 10000
set_option maxHeartbeats 8000000
attribute [local simp] Ok_true Br_true Br_false rtV exec_none exec_some opV dstB dstW upd_nil upd_cons upd1_at args0_zero args0_succ args0_nil ev cellsV isDead notSelf allCell cellB shrL shr ownsL owns ownE elems frz noLst noLstL outV_ret outV_norm retV resL resV tupV nmL nm boolV isBoolV isSkV binV unV fillV chunk sizesB sizeV List.mapIdx_cons List.mapIdx_nil List.mapIdx List.mapIdx.go List.range List.range.loop List.map_cons List.map_nil Option.isSome_some Option.isSome_none Option.getD_some Option.map_some Option.bind_some Option.map_none Option.bind_none List.append_nil List.nil_append List.cons_append List.isEmpty_nil List.isEmpty_cons Bool.and_true Bool.true_and Bool.and_false Bool.false_and Bool.or_true Bool.or_false Bool.true_or Bool.false_or Bool.not_true Bool.not_false List.length_cons List.length_nil List.take List.drop List.getD_cons_zero List.getD_cons_succ List.getElem?_cons_zero List.getElem?_cons_succ List.replicate List.flatten Wp_skip Wp_exit Wp_ret Wp_kil Wp_reg Wi_nil Wi_cons Wp_seq Wp_cond Wp_block seqQ_norm seqQ_exit seqQ_ret blkQ_norm blkQ_exit blkQ_ret nrQ_norm nrQ_exit nrQ_ret lpQ_norm lpQ_exit lpQ_ret outQ_norm outQ_ret rgQ_at kilR kil1 kil kilL sets List.set_cons_zero List.set_cons_succ kilR0 frzd isFz ren renL frV frQ_norm frQ_ret retFr shrF shrFL arrV1
attribute [local simp] wrap_id kil_lv
theorem c5d1 (n : Int) (al fl : List Int) (s : List Int) (GA GF GT GC : List Num) (Y : Num)
    (k1 : D E 10 [.lst [mat n n al, mat n n fl]] = some (.int .i64 0)) (k2 : D E 22 [mat n n al, mat n n fl, sws s] = some (.tup [encN zN, .int .i64 4])) (k3 : D E 23 [mat n n al, mat n n fl] = some (.tup [encN Y, .int .i64 0]))
    (k4 : D E 14 [mat n n al] = some (grd n n GA)) (k5 : D E 14 [mat n n fl] = some (grd n n GF)) (k6 : D E 19 [grd n n GF] = some (grd n n GT)) (k7 : D E 15 [grd n n GF, grd n n GT] = some (grd n n GC)) (k8 : D E 13 [grd n n GA, grd n n GC] = some (encN Y))
    (k9 : D E 16 [encN Y, .int .i64 0, .int .i64 0, .bool true, encN Y] = some (.bool true))
    (m1 : D E 24 [mat n n al, sws s] = some (.tup [.agg [.int .i64 0, .int .i64 0, .lst []], .int .i64 4])) :
    D E 5 [mat n n al, mat n n fl, sws s] = some (.bool true) := by
  refine wpE (F := ir5) (by kernel_rfl) (by kernel_rfl) ?_
  have k0 := c6
  unfold mat sws grd at *
  simp only [encN, enc, zN, List.map_nil] at k2 k3 k8 k9
  simp [-List.map_map, ir5, k0, k1, k2, k3, k4, k5, k6, k7, k8, k9, m1, encN, enc, zN]
theorem c5c5 (p q : Int) (h0 : p ≠ q) (h1 : q < p) (al fl pl ll ul : List Int) (s : List Int) (GP GL GU GM : List Num) (X : Num)
    (k1 : D E 10 [.lst [mat p q al, mat p q fl]] = some (.int .i64 0)) (k2 : D E 22 [mat p q al, mat p q fl, sws s] = some (.tup [encN X, .int .i64 0])) (k3 : D E 23 [mat p q al, mat p q fl] = some (.tup [encN zN, .int .i64 11]))
    (m1 : D E 24 [mat p q al, sws s] = some (.tup [mat p q pl, .int .i64 0])) (m2 : D E 25 [mat p q fl] = some (.tup [mat p q ll, mat q q ul, .int .i64 0]))
    (m3 : D E 14 [mat p q pl] = some (grd p q GP)) (m4 : D E 14 [mat p q ll] = some (grd p q GL)) (m5 : D E 14 [mat q q ul] = some (grd q q GU)) (m6 : D E 15 [grd p q GL, grd q q GU] = some (grd p q GM)) (m7 : D E 13 [grd p q GP, grd p q GM] = some (encN X))
    (m8 : D E 16 [encN X, .int .i64 0, .int .i64 0, .bool true, encN X] = some (.bool true)) :
    D E 5 [mat p q al, mat p q fl, sws s] = some (.bool true) := by
  refine wpE (F := ir5) (by kernel_rfl) (by kernel_rfl) ?_
  have k0 := c6
  have k4 := c16o zN
  have h0c : (p == q) = false := beq_eq_false_iff_ne.2 h0
  have h0d : (q == p) = false := beq_eq_false_iff_ne.2 (Ne.symm h0)
  have h0b : ¬ q = p := fun e => h0 e.symm
  have h1a : p ≥ q := by omega
  have h1b : q ≤ p := by omega
  unfold mat sws grd at *
  simp only [encN, enc, zN, List.map_nil] at k2 k3 k4 m7 m8
  simp [-List.map_map, ir5, k0, k1, k2, k3, k4, h0, h0b, h0c, h0d, h1a, h1b, m1, m2, m3, m4, m5, m6, m7, m8, encN, enc, zN]
theorem c5d5 (p q : Int) (h0 : p ≠ q) (h1 : q < p) (al fl : List Int) (s : List Int)
    (k1 : D E 10 [.lst [mat p q al, mat p q fl]] = some (.int .i64 0)) (k2 : D E 22 [mat p q al, mat p q fl, sws s] = some (.tup [encN zN, .int .i64 4])) (k3 : D E 23 [mat p q al, mat p q fl] = some (.tup [encN zN, .int .i64 11]))
    (m1 : D E 24 [mat p q al, sws s] = some (.tup [.agg [.int .i64 0, .int .i64 0, .lst []], .int .i64 4])) :
    D E 5 [mat p q al, mat p q fl, sws s] = some (.bool true) := by
  refine wpE (F := ir5) (by kernel_rfl) (by kernel_rfl) ?_
  have k0 := c6
  have k4 := c16o zN
  have h0c : (p == q) = false := beq_eq_false_iff_ne.2 h0
  have h0d : (q == p) = false := beq_eq_false_iff_ne.2 (Ne.symm h0)
  have h0b : ¬ q = p := fun e => h0 e.symm
  have h1a : p ≥ q := by omega
  have h1b : q ≤ p := by omega
  unfold mat sws at *
  simp only [encN, enc, zN, List.map_nil] at k2 k3 k4
  simp [-List.map_map, ir5, k0, k1, k2, k3, k4, h0, h0b, h0c, h0d, h1a, h1b, m1, encN, enc, zN]
end Go.Proofs.YtejmahnbecglfaaDoor.Den
end
section
set_option linter.unusedVariables false
set_option linter.unusedSimpArgs false
namespace Go.Proofs.YtejmahnbecglfaaDoor.Den
open Go
open Go.Proofs.YtejmahnbecglfaaDoor.OwnA (u64s finF readyF apN apN_len fits sideB_iff)
set_option maxRecDepth 10000
set_option maxHeartbeats 8000000
theorem t5a (a f : Mt) (s : List Int) (ua : u64s a.l) (uf : u64s f.l) (h : firstF [a, f] ≠ 0) : D E 5 [encM a, encM f, sws s] = some (.bool true) := by
  have k1 : D E 10 [.lst [encM a, encM f]] = some (.int .i64 (firstF [a, f])) := c10 [a, f] (by simp; exact ⟨ua, uf⟩) (by simp)
  have k2 := c22e a f s ua uf h
  have k3 := c23e a f ua uf h
  obtain ⟨p, q, al⟩ := a
  obtain ⟨r, t, fl⟩ := f
  generalize firstF [⟨p, q, al⟩, ⟨r, t, fl⟩] = e at h k1 k2 k3
  unfold encM at *
  simp only at *
  by_cases e0 : p = q
  · by_cases e1 : r = p
    · by_cases e2 : t = p
      · rw [e2, e1, ← e0] at k1 k2 k3 ⊢
        exact c5a1 _ _ _ _ e h k1 k2 k3
      · rw [e1, ← e0] at k1 k2 k3 ⊢
        exact c5a7 _ _ e2 _ _ _ e h k1 k2 k3
    · rw [← e0] at k1 k2 k3 ⊢
      exact c5a6 _ _ _ e1 _ _ _ e h k1 k2 k3
  · by_cases e1 : p = r
    · by_cases e2 : q = t
      · rw [← e1, ← e2] at k1 k2 k3 ⊢
        by_cases e3 : p < q
        · exact c5a4 _ _ e0 e3 _ _ _ e h k1 k2 k3
        · exact c5a5 _ _ e0 (by omega) _ _ _ e h k1 k2 k3
      · rw [← e1] at k1 k2 k3 ⊢
        exact c5a3 _ _ _ e0 e2 _ _ _ e h k1 k2 k3
    · exact c5a2 _ _ _ _ e0 e1 _ _ _ e h k1 k2 k3
theorem t5s (n : Nat) (al fl : List Int) (s : List Int) (n0 : 1 ≤ n) (n1 : n ≤ 64) (ua : u64s al) (uf : u64s fl) (h : firstF [⟨n, n, al⟩, ⟨n, n, fl⟩] = 0) (la : al.length = n * n) (lf : fl.length = n * n) : D E 5 [mat n n al, mat n n fl, sws s] = some (.bool true) := by
  have k1 : D E 10 [.lst [encM ⟨n, n, al⟩, encM ⟨n, n, fl⟩]] = some (.int .i64 (firstF [⟨n, n, al⟩, ⟨n, n, fl⟩])) := c10 [⟨n, n, al⟩, ⟨n, n, fl⟩] (by simp; exact ⟨ua, uf⟩) (by simp)
  rw [h] at k1
  have hb : n * n ≤ 64 * 64 := Nat.mul_le_mul n1 n1
  have k3 := c23t n al fl n0 n1 ua uf h la lf
  have hP : (al.map ofW).length = (chP n fl).length := by rw [List.length_map, la]; exact (prodN_len ..).symm
  rw [far_eq (GN_ofs _) (GN_chP n fl) hP] at k3
  have k4 := c14 n n al (by omega)
  have k5 := c14 n n fl (by omega)
  have k6 := c19 n n (fl.map ofW) n1 n1 (by rw [List.length_map]; exact lf)
  have k7 : D E 15 [grd n n (fl.map ofW), grd n n (trN n n (fl.map ofW))] = some (grd n n (chP n fl)) := c15 n n n (fl.map ofW) (trN n n (fl.map ofW)) (GN_ofs _) (GN_tr (GN_ofs _)) n0 n1 n1 n1 (by rw [List.length_map]; exact lf) (trN_len ..)
  have k8 := c13 n n n n (al.map ofW) (chP n fl) (GN_ofs _) (GN_chP n fl) (by rw [List.length_map]; omega) hP
  have k9 := c16t _ (GN_far (GN_ofs al) (GN_chP n fl) (al.map ofW).length)
  have m1 := c24 n n al s
  by_cases hr : readyF n n al.length s = 0
  · rw [if_pos hr] at m1
    have lp : (apN n al s s.length).length = n * n := by rw [apN_len]; exact la
    have k2 := c22t n n al fl (apN n al s s.length) s n0 (Nat.le_refl _) n1 ua uf h lp lf m1
    generalize apN n al s s.length = pl at m1 k2 lp
    have hQ : (pl.map ofW).length = (luP n n fl).length := by rw [List.length_map, lp]; exact (prodN_len ..).symm
    rw [far_eq (GN_ofs _) (GN_luP n n fl) hQ] at k2
    have m2 := c25 n n fl n0 (Nat.le_refl _) n1 lf
    have l1 := loL_len n n fl
    have l2 := upL_len n fl
    have m3 := c14 n n pl (by omega)
    have m4 := c14 n n (loL n n fl) (by omega)
    have m5 := c14 n n (upL n fl) (by omega)
    have m6 : D E 15 [grd n n ((loL n n fl).map ofW), grd n n ((upL n fl).map ofW)] = some (grd n n (luP n n fl)) := c15 n n n ((loL n n fl).map ofW) ((upL n fl).map ofW) (GN_ofs _) (GN_ofs _) n0 n1 n1 n1 (by rw [List.length_map]; exact l1) (by rw [List.length_map]; exact l2)
    have m7 := c13 n n n n (pl.map ofW) (luP n n fl) (GN_ofs _) (GN_luP n n fl) (by rw [List.length_map]; omega) hQ
    have m8 := c16t _ (GN_far (GN_ofs pl) (GN_luP n n fl) (pl.map ofW).length)
    exact c5c1 n al fl _ _ _ s _ _ _ _ _ _ _ _ _ _ k1 k2 k3 k4 k5 k6 k7 k8 k9 m1 m2 m3 m4 m5 m6 m7 m8
  · rw [if_neg hr] at m1
    have h4 := ready4 (by unfold fits; rw [Bool.and_eq_true, Bool.and_eq_true, sideB_iff, la, decide_eq_true_iff]; exact ⟨⟨by omega, by omega⟩, ⟨by omega, by omega⟩, by simp⟩) hr
    rw [h4] at m1
    have k2 := c22b n n al fl s 4 (Nat.le_refl _) ua uf h (by decide) m1
    exact c5d1 n al fl s _ _ _ _ _ k1 k2 k3 k4 k5 k6 k7 k8 k9 m1
theorem t5r (m n : Nat) (al fl : List Int) (s : List Int) (n0 : 1 ≤ n) (hnm : n < m) (m1 : m ≤ 64) (ua : u64s al) (uf : u64s fl) (h : firstF [⟨m, n, al⟩, ⟨m, n, fl⟩] = 0) (la : al.length = m * n) (lf : fl.length = m * n) : D E 5 [mat m n al, mat m n fl, sws s] = some (.bool true) := by
  have k1 : D E 10 [.lst [encM ⟨m, n, al⟩, encM ⟨m, n, fl⟩]] = some (.int .i64 (firstF [⟨m, n, al⟩, ⟨m, n, fl⟩])) := c10 [⟨m, n, al⟩, ⟨m, n, fl⟩] (by simp; exact ⟨ua, uf⟩) (by simp)
  rw [h] at k1
  have hb : m * n ≤ 64 * 64 := Nat.mul_le_mul m1 (by omega)
  have hb2 : n * n ≤ 64 * 64 := Nat.mul_le_mul (by omega) (by omega)
  have h0 : (m : Int) ≠ n := by omega
  have h1 : (n : Int) < m := by omega
  have k3 := c23o ⟨m, n, al⟩ ⟨m, n, fl⟩ ua uf h (fun e => h0 e.1)
  have q1 := c24 m n al s
  by_cases hr : readyF m n al.length s = 0
  · rw [if_pos hr] at q1
    have lp : (apN n al s s.length).length = m * n := by rw [apN_len]; exact la
    have k2 := c22t m n al fl (apN n al s s.length) s n0 (by omega) m1 ua uf h lp lf q1
    generalize apN n al s s.length = pl at q1 k2 lp
    have hQ : (pl.map ofW).length = (luP m n fl).length := by rw [List.length_map, lp]; exact (prodN_len ..).symm
    rw [far_eq (GN_ofs _) (GN_luP m n fl) hQ] at k2
    have m2 := c25 m n fl n0 (by omega) m1 lf
    have l1 := loL_len m n fl
    have l2 := upL_len n fl
    have m3 := c14 m n pl (by omega)
    have m4 := c14 m n (loL m n fl) (by omega)
    have m5 := c14 n n (upL n fl) (by omega)
    have m6 : D E 15 [grd m n ((loL m n fl).map ofW), grd n n ((upL n fl).map ofW)] = some (grd m n (luP m n fl)) := c15 m n n ((loL m n fl).map ofW) ((upL n fl).map ofW) (GN_ofs _) (GN_ofs _) n0 m1 (by omega) (by omega) (by rw [List.length_map]; exact l1) (by rw [List.length_map]; exact l2)
    have m7 := c13 m n m n (pl.map ofW) (luP m n fl) (GN_ofs _) (GN_luP m n fl) (by rw [List.length_map]; omega) hQ
    have m8 := c16t _ (GN_far (GN_ofs pl) (GN_luP m n fl) (pl.map ofW).length)
    exact c5c5 m n h0 h1 al fl _ _ _ s _ _ _ _ _ k1 k2 k3 q1 m2 m3 m4 m5 m6 m7 m8
  · rw [if_neg hr] at q1
    have h4 := ready4 (by unfold fits; rw [Bool.and_eq_true, Bool.and_eq_true, sideB_iff, sideB_iff, la, decide_eq_true_iff]; exact ⟨⟨by omega, by omega⟩, ⟨by omega, by omega⟩, by simp⟩) hr
    rw [h4] at q1
    have k2 := c22b m n al fl s 4 (by omega) ua uf h (by decide) q1
    exact c5d5 m n h0 h1 al fl s k1 k2 k3 q1
theorem t5 (a f : Mt) (s : List Int) (ua : u64s a.l) (uf : u64s f.l) : D E 5 [encM a, encM f, sws s] = some (.bool true) := by
  by_cases h : firstF [a, f] = 0
  · have ha : finM a = 0 := by
      by_cases e : finM a = 0
      · exact e
      · simp [firstF, e] at h
    have hf : finM f = 0 := by
      by_cases e : finM f = 0
      · exact e
      · simp [firstF, ha, e] at h
    obtain ⟨a1, a2, a3, a4, a5⟩ := fin_fits ha
    obtain ⟨f1, f2, f3, f4, f5⟩ := fin_fits hf
    have k1 : D E 10 [.lst [encM a, encM f]] = some (.int .i64 (firstF [a, f])) := c10 [a, f] (by simp; exact ⟨ua, uf⟩) (by simp)
    rw [h] at k1
    have K2 := c22o a f s ua uf h
    have K3 := c23o a f ua uf h
    obtain ⟨p, q, al⟩ := a
    obtain ⟨r, t, fl⟩ := f
    simp only at a1 a2 a3 a4 a5 f1 f2 f3 f4 f5 K2 K3 ua uf
    obtain ⟨p', rfl⟩ := Int.eq_ofNat_of_zero_le (show 0 ≤ p by omega)
    obtain ⟨q', rfl⟩ := Int.eq_ofNat_of_zero_le (show 0 ≤ q by omega)
    rw [Int.toNat_natCast, Int.toNat_natCast] at a5
    unfold encM at *
    simp only at *
    by_cases e0 : (p' : Int) = q'
    · by_cases e1 : r = p'
      · by_cases e2 : t = p'
        · obtain rfl : p' = q' := by omega
          subst e1
          subst e2
          rw [Int.toNat_natCast] at f5
          exact t5s p' al fl s (by omega) (by omega) ua uf h a5 f5
        · have k2 := K2 (fun e => e2 (by omega))
          have k3 := K3 (fun e => e2 e.2.2)
          rw [e1, ← e0] at k1 k2 k3 ⊢
          exact c5b7 _ _ e2 _ _ _ k1 k2 k3
      · have k2 := K2 (fun e => e1 (by omega))
        have k3 := K3 (fun e => e1 e.2.1)
        rw [← e0] at k1 k2 k3 ⊢
        exact c5b6 _ _ _ e1 _ _ _ k1 k2 k3
    · have k3 := K3 (fun e => e0 e.1)
      by_cases e1 : (p' : Int) = r
      · by_cases e2 : (q' : Int) = t
        · by_cases e3 : (p' : Int) < q'
          · have k2 := K2 (fun e => by omega)
            rw [← e1, ← e2] at k1 k2 k3 ⊢
            exact c5b4 _ _ e0 e3 _ _ _ k1 k2 k3
          · subst e1
            subst e2
            rw [Int.toNat_natCast, Int.toNat_natCast] at f5
            exact t5r p' q' al fl s (by omega) (by omega) (by omega) ua uf h a5 f5
        · have k2 := K2 (fun e => e2 e.2.1)
          rw [← e1] at k1 k2 k3 ⊢
          exact c5b3 _ _ _ e0 e2 _ _ _ k1 k2 k3
      · have k2 := K2 (fun e => e1 e.1)
        exact c5b2 _ _ _ _ e0 e1 _ _ _ k1 k2 k3
  · exact t5a a f s ua uf h
end Go.Proofs.YtejmahnbecglfaaDoor.Den
end
