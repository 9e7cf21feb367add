/- Pairs of bounds: the first one, rounded up, one product more, what is taken away; sums of blocks. -/
import Derived.Test.YtmbdbkcifmkpbaaGreatDoorCM3

set_option linter.unusedVariables false
set_option linter.unusedSimpArgs false
namespace Go.Proofs.YtmbdbkcifmkpbaaGreatDoor.Den
open Go
open Go.Proofs.YtmbdbkcifmkpbaaGreatDoor.OwnA (u64s normF toldF addF)
set_option maxRecDepth 10000
set_option maxHeartbeats 8000000
attribute [local simp] Ok_true Br_true Br_false rtV exec_none exec_some opV dstB dstW upd_nil upd_cons upd1_at args0_zero args0_succ args0_nil ev cellsV isDead notSelf allCell cellB shrL shr ownsL owns ownE elems frz noLst noLstL outV_ret outV_norm retV resL resV tupV nmL nm boolV isBoolV isSkV binV unV fillV chunk sizesB sizeV List.mapIdx_cons List.mapIdx_nil List.mapIdx List.mapIdx.go List.range List.range.loop List.map_cons List.map_nil Option.isSome_some Option.isSome_none Option.getD_some Option.map_some Option.bind_some Option.map_none Option.bind_none List.append_nil List.nil_append List.cons_append List.isEmpty_nil List.isEmpty_cons Bool.and_true Bool.true_and Bool.and_false Bool.false_and Bool.or_true Bool.or_false Bool.true_or Bool.false_or Bool.not_true Bool.not_false List.length_cons List.length_nil List.take List.drop List.getD_cons_zero List.getD_cons_succ List.getElem?_cons_zero List.getElem?_cons_succ List.replicate List.flatten Wp_skip Wp_exit Wp_ret Wp_kil Wp_reg Wp_dfr Wi_nil Wi_cons Wp_seq Wp_cond Wp_block seqQ_norm seqQ_exit seqQ_ret blkQ_norm blkQ_exit blkQ_ret nrQ_norm nrQ_exit nrQ_ret lpQ_norm lpQ_exit lpQ_ret outQ_norm outQ_ret rgQ_at kilR kil1 kil kilL sets List.set_cons_zero List.set_cons_succ kilR0 frzd isFz ren renL frV frQ_norm frQ_ret retFr shrF shrFL arrV1
attribute [local simp] wrap_id
def encP (e g : Num) : V := .agg [.bool e.n, .lst (e.l.map (V.int .u64)), .int .i64 e.x, .bool g.n, .lst (g.l.map (V.int .u64)), .int .i64 g.x]
def encT (n e g : Num) : V := .agg [.bool n.n, .lst (n.l.map (V.int .u64)), .int .i64 n.x, .bool e.n, .lst (e.l.map (V.int .u64)), .int .i64 e.x, .bool g.n, .lst (g.l.map (V.int .u64)), .int .i64 g.x]
theorem b59 : D E 59 [] = some (encP (ofN 1 (-53)) (ofN 1 (-1075))) := by
  refine wpE (F := ir59) (by kernel_rfl) (by kernel_rfl) ?_
  have k1 := q58 1 (-53) (by omega) (by omega) (by omega) (by omega)
  have k2 := q58 1 (-1075) (by omega) (by omega) (by omega) (by omega)
  unfold encN enc at *
  unfold encP
  simp [ir59, k1, k2]
theorem f_e {lo hi : Int} (h0 : lo ≤ -53 := by omega) (h1 : 7 ≤ hi := by omega) : IV lo hi (ofN 1 (-53)) := (of_IV (by omega) (by omega) (by omega) (by omega)).mono h0 h1
theorem f_g {lo hi : Int} (h0 : lo ≤ -1075 := by omega) (h1 : 7 ≤ hi := by omega) : IV lo hi (ofN 1 (-1075)) := (of_IV (by omega) (by omega) (by omega) (by omega)).mono h0 h1
theorem f_n {lo hi n : Int} (n0 : 0 ≤ n := by omega) (n1 : n ≤ 64 := by omega) (h0 : lo ≤ 0 := by omega) (h1 : 7 ≤ hi := by omega) : IV lo hi (ofN n 0) := (of_IV (by omega) (by omega) (by omega) (by omega)).mono h0 h1
theorem b62 {le he lg hg : Int} {e g : Num} (hE : IV le he e) (hG : IV lg hg g) (h0 : -16384 ≤ le := by omega) (h1 : he + 1 ≤ 16384 := by omega) (hz : le ≤ 0 := by omega) (hz2 : 0 ≤ he := by omega) (g0 : -16384 ≤ lg := by omega) (g1 : hg + 1 ≤ 16384 := by omega) (gz : lg ≤ 0 := by omega) (gz2 : 0 ≤ hg := by omega) :
    ∃ e' g', D E 62 [encP e g] = some (encP e' g') ∧ IV le (he + 1) e' ∧ IV lg (hg + 1) g' := by
  obtain ⟨e', k1, he'⟩ := q88 hE
  obtain ⟨g', k2, hg'⟩ := q88 hG
  refine ⟨e', g', ?_, he', hg'⟩
  refine wpE (F := ir62) (by kernel_rfl) (by kernel_rfl) ?_
  have k3 := q67 e'
  have k4 := q67 g'
  unfold encN enc at *
  unfold encP
  simp [ir62, k1, k2, k3, k4]
theorem b75 {le he lg hg n : Int} {e g : Num} (hE : IV le he e) (hG : IV lg hg g) (n0 : 0 ≤ n) (n1 : n ≤ 64) (h0 : -16384 ≤ le - 53 := by omega) (h1 : he + 30 ≤ 16384 := by omega) (hz : le ≤ -53 := by omega) (hz2 : 7 ≤ he := by omega) (g0 : -16384 ≤ lg - 53 := by omega) (g1 : hg + 30 ≤ 16384 := by omega) (gz : lg ≤ -1075 := by omega) (gz2 : 7 ≤ hg := by omega) :
    ∃ e' g', D E 75 [encP e g, .int .i64 n] = some (encP e' g') ∧ IV (le - 53) (he + 12) e' ∧ IV (lg - 53) (hg + 12) g' := by
  have k0 := b59
  have k1 := q58 n 0 n0 n1 (by omega) (by omega)
  have k2 := q58 1 0 (by omega) (by omega) (by omega) (by omega)
  obtain ⟨o, k3, ho⟩ := off3 (f_n (lo := le) (hi := he) (n := n)) hE (f_n (n := 1)) f_e
  obtain ⟨e', k4, he'⟩ := plus2 (hE.mono (lo' := le - 53) (hi' := he + 10) (by omega) (by omega)) f_e ho
  obtain ⟨p, k5, hp⟩ := off1 hG (f_g (lo := lg) (hi := hg))
  obtain ⟨g', k6, hg'⟩ := plus2 (hG.mono (lo' := lg - 53) (hi' := hg + 8) (by omega) (by omega)) f_g hp
  refine ⟨e', g', ?_, he'.mono (by omega) (by omega), hg'.mono (by omega) (by omega)⟩
  refine wpE (F := ir75) (by kernel_rfl) (by kernel_rfl) ?_
  unfold encN enc at *
  unfold encP at *
  simp [ir75, k0, k1, k2, k3, k4, k5, k6]
theorem b61 {le he lg hg n : Int} {e g e2 g2 : Num} (hE : IV le he e) (hG : IV lg hg g) (hE2 : IV le he e2) (hG2 : IV lg hg g2) (n0 : 0 ≤ n) (n1 : n ≤ 64) (h0 : -16384 ≤ le - 53 := by omega) (h1 : he + 30 ≤ 16384 := by omega) (hz : le ≤ 0 := by omega) (hz2 : 7 ≤ he := by omega) (g0 : -16384 ≤ lg - 53 := by omega) (g1 : hg + 30 ≤ 16384 := by omega) (gz : lg ≤ 0 := by omega) (gz2 : 7 ≤ hg := by omega) :
    ∃ e' g', D E 61 [encP e g, encP e2 g2, .int .i64 n] = some (encP e' g') ∧ IV (le - 53) (he + 10) e' ∧ IV (lg - 53) (hg + 10) g' := by
  have k1 := q58 n 0 n0 n1 (by omega) (by omega)
  obtain ⟨o, k3, ho⟩ := off1 (f_n (lo := le) (hi := he) (n := n)) hE2
  obtain ⟨e', k4, he'⟩ := plus2 (hE.mono (lo' := le - 53) (hi' := he + 8) (by omega) (by omega)) ho (hE2.mono (by omega) (by omega))
  obtain ⟨p, k5, hp⟩ := off0 hG2
  obtain ⟨g', k6, hg'⟩ := plus2 (hG.mono (lo' := lg - 53) (hi' := hg + 7) (by omega) (by omega)) (hG2.mono (by omega) (by omega)) hp
  refine ⟨e', g', ?_, he'.mono (by omega) (by omega), hg'.mono (by omega) (by omega)⟩
  refine wpE (F := ir61) (by kernel_rfl) (by kernel_rfl) ?_
  unfold encN enc at *
  unfold encP at *
  simp [ir61, k1, k3, k4, k5, k6]
theorem b113 {lo hi : Int} {n e : Num} (hn : IV lo hi n) (he : IV lo hi e) (h0 : -16384 ≤ lo := by omega) (h1 : hi + 8 ≤ 16384 := by omega) (hz : lo ≤ 0 := by omega) (hz2 : 0 ≤ hi := by omega) :
    ∃ c, D E 113 [encP n e] = some (encN c) ∧ IV lo (hi + 1) c := by
  obtain ⟨c, k1, hc⟩ := plus1 hn he
  refine ⟨c, ?_, hc⟩
  refine wpE (F := ir113) (by kernel_rfl) (by kernel_rfl) ?_
  unfold encN enc at *
  unfold encP
  simp [ir113, k1]
theorem b95 {lo hi : Int} {n e n2 e2 : Num} (hn : IV lo hi n) (he : IV lo hi e) (hn2 : IV lo hi n2) (he2 : IV lo hi e2) (h0 : -16384 ≤ lo - 53 := by omega) (h1 : hi + 30 ≤ 16384 := by omega) (hz : lo ≤ 0 := by omega) (hz2 : 0 ≤ hi := by omega) :
    ∃ n' e', D E 95 [encP n e, encP n2 e2] = some (encP n' e') ∧ IV (lo - 53) (hi + 12) n' ∧ IV (lo - 53) (hi + 12) e' := by
  obtain ⟨n', k1, h1'⟩ := plus1 hn hn2
  obtain ⟨o, k2, ho⟩ := off3 hn he hn2 he2
  obtain ⟨e', k3, h3⟩ := plus2 (he.mono (lo' := lo - 53) (hi' := hi + 10) (by omega) (by omega)) (he2.mono (by omega) (by omega)) ho
  refine ⟨n', e', ?_, h1'.mono (by omega) (by omega), h3.mono (by omega) (by omega)⟩
  refine wpE (F := ir95) (by kernel_rfl) (by kernel_rfl) ?_
  unfold encN enc at *
  unfold encP
  simp [ir95, k1, k2, k3]
theorem b97 {lo hi lg hg : Int} {n e g n2 e2 g2 : Num} (hn : IV lo hi n) (he : IV lo hi e) (hg1 : IV lg hg g) (hn2 : IV lo hi n2) (he2 : IV lo hi e2) (hg2 : IV lg hg g2) (h0 : -16384 ≤ lo - 53 := by omega) (h1 : hi + 30 ≤ 16384 := by omega) (hz : lo ≤ 0 := by omega) (hz2 : 0 ≤ hi := by omega) (g0 : -16384 ≤ lg - 53 := by omega) (g1 : hg + 30 ≤ 16384 := by omega) (gz : lg ≤ 0 := by omega) (gz2 : 0 ≤ hg := by omega) :
    ∃ n' e' g', D E 97 [encT n e g, encT n2 e2 g2] = some (encT n' e' g') ∧ IV (lo - 53) (hi + 12) n' ∧ IV (lo - 53) (hi + 12) e' ∧ IV (lg - 53) (hg + 12) g' := by
  obtain ⟨n', k1, h1'⟩ := plus1 hn hn2
  obtain ⟨o, k2, ho⟩ := off3 hn he hn2 he2
  obtain ⟨e', k3, h3⟩ := plus2 (he.mono (lo' := lo - 53) (hi' := hi + 10) (by omega) (by omega)) (he2.mono (by omega) (by omega)) ho
  obtain ⟨p, k4, hp⟩ := off1 hg1 hg2
  obtain ⟨g', k5, h5⟩ := plus2 (hg1.mono (lo' := lg - 53) (hi' := hg + 8) (by omega) (by omega)) (hg2.mono (by omega) (by omega)) hp
  refine ⟨n', e', g', ?_, h1'.mono (by omega) (by omega), h3.mono (by omega) (by omega), h5.mono (by omega) (by omega)⟩
  refine wpE (F := ir97) (by kernel_rfl) (by kernel_rfl) ?_
  unfold encN enc at *
  unfold encT
  simp [ir97, k1, k2, k3, k4, k5]
/-- a product of sums -/
theorem b96 {lx hx ly hy le he lg hg k : Int} {n e n2 e2 pe pg : Num} (hn : IV lx hx n) (hE : IV lx hx e) (hn2 : IV ly hy n2) (hE2 : IV ly hy e2) (hpe : IV le he pe) (hpg : IV lg hg pg) (k0 : 0 ≤ k) (k1 : k ≤ 64)
    (h0 : -16384 ≤ le + lx + ly := by omega) (h1 : he + hx + hy + 60 ≤ 16384 := by omega) (z1 : lx ≤ 0 := by omega) (z2 : ly ≤ 0 := by omega) (z3 : le ≤ 0 := by omega) (z4 : 0 ≤ hx := by omega) (z5 : 0 ≤ hy := by omega) (z6 : 0 ≤ he := by omega) :
    ∃ n' e', D E 96 [.agg [.int .i64 k, .bool pe.n, .lst (pe.l.map (V.int .u64)), .int .i64 pe.x, .bool pg.n, .lst (pg.l.map (V.int .u64)), .int .i64 pg.x], encP n e, encP n2 e2] = some (encT n' e' pg) ∧ IV (le + lx + ly) (he + hx + hy + 12) n' ∧ IV (le + lx + ly) (he + hx + hy + 12) e' := by
  have q0 := q58 k 0 k0 k1 (by omega) (by omega)
  have ik : IV 0 7 (ofN k 0) := of_IV k0 k1 (by omega) (by omega)
  obtain ⟨gx, q1, i1⟩ := b113 hn hE
  obtain ⟨gy, q2, i2⟩ := b113 hn2 hE2
  obtain ⟨t1, q3, i3⟩ := times2 hpe i1 i2
  obtain ⟨t2, q4, i4⟩ := times1 hE i2
  obtain ⟨t3, q5, i5⟩ := times1 hn hE2
  obtain ⟨t4, q6, i6⟩ := plus1 (i4.mono (lo' := lx + ly) (hi' := hx + hy + 1) (by omega) (by omega)) (i5.mono (by omega) (by omega))
  obtain ⟨t5, q7, i7⟩ := times1 ik i6
  obtain ⟨t6, q8, i8⟩ := plus1 (i3.mono (lo' := le + lx + ly) (hi' := he + hx + hy + 11) (by omega) (by omega)) (i7.mono (by omega) (by omega))
  obtain ⟨t7, q9, i9⟩ := times2 ik hn hn2
  refine ⟨t7, t6, ?_, i9.mono (by omega) (by omega), i8.mono (by omega) (by omega)⟩
  refine wpE (F := ir96) (by kernel_rfl) (by kernel_rfl) ?_
  unfold encN enc at *
  unfold encP at *
  unfold encT
  simp [ir96, q0, q1, q2, q3, q4, q5, q6, q7, q8, q9]
end Go.Proofs.YtmbdbkcifmkpbaaGreatDoor.Den
