/- Parts of the proof, joined: The program's answers. The program's answers: Times, Product. One on the diagonal. Units; a grid that is handed over. Halves of a matrix. A matrix cut out of another one; two triangles. Grids: turned. -/
import Derived.Test.YtmbdbkcifmkpbaaGreatDoorCLB
import Derived.Test.YtmbdbkcifmkpbaaGreatDoorCLA
section
set_option linter.unusedVariables false
set_option linter.unusedSimpArgs false
namespace Go.Proofs.YtmbdbkcifmkpbaaGreatDoor.Den
open Go
open Go.Proofs.YtmbdbkcifmkpbaaGreatDoor.OwnA (u64s finF)
set_option maxRecDepth 10000
set_option maxHeartbeats 4000000
attribute [local simp] Ok_true Br_true Br_false rtV exec_none exec_some opV dstB dstW upd_nil upd_cons upd1_at args0_zero args0_succ args0_nil ev cellsV isDead notSelf allCell cellB shrL shr ownsL owns ownE elems frz noLst noLstL outV_ret outV_norm retV resL resV tupV nmL nm boolV isBoolV isSkV binV unV fillV chunk sizesB sizeV List.mapIdx_cons List.mapIdx_nil List.mapIdx List.mapIdx.go List.range List.range.loop List.map_cons List.map_nil Option.isSome_some Option.isSome_none Option.getD_some Option.map_some Option.bind_some Option.map_none Option.bind_none List.append_nil List.nil_append List.cons_append List.isEmpty_nil List.isEmpty_cons Bool.and_true Bool.true_and Bool.and_false Bool.false_and Bool.or_true Bool.or_false Bool.true_or Bool.false_or Bool.not_true Bool.not_false List.length_cons List.length_nil List.take List.drop List.getD_cons_zero List.getD_cons_succ List.getElem?_cons_zero List.getElem?_cons_succ List.replicate List.flatten Wp_skip Wp_exit Wp_ret Wp_kil Wp_reg Wp_dfr Wi_nil Wi_cons Wp_seq Wp_cond Wp_block seqQ_norm seqQ_exit seqQ_ret blkQ_norm blkQ_exit blkQ_ret nrQ_norm nrQ_exit nrQ_ret lpQ_norm lpQ_exit lpQ_ret outQ_norm outQ_ret rgQ_at kilR kil1 kil kilL sets List.set_cons_zero List.set_cons_succ kilR0 frzd isFz ren renL frV frQ_norm frQ_ret retFr shrF shrFL arrV1
attribute [local simp] wrap_id
theorem GN_ofs (l : List Int) : ∀ a ∈ l.map ofW, GN a := by
  intro a ha
  obtain ⟨x, _, rfl⟩ := List.mem_map.1 ha
  exact ofW_G x
theorem c7 (m : Mt) (h : u64s m.l) (hl : m.l.length ≤ 100000) : D E 39 [encM m] = some (if finM m = 0 then .tup [encN ((m.l.map ofW).foldl mostP zN), .int .i64 0] else .tup [encN zN, .int .i64 (finM m)]) := by
  refine wpE (F := ir39) (by kernel_rfl) (by kernel_rfl) ?_
  have h1 := c26 [m] (by simpa using h) (by simp)
  have h2 := c27 m.r m.c m.l hl
  have h3 := c28 m.r m.c (m.l.map ofW) (GN_ofs _) (by simpa using hl)
  by_cases hz : finM m = 0
  · rw [if_pos hz]
    simp only [firstF, hz, if_true, List.map_cons, List.map_nil, encM, mat, grd] at h1 h2 h3
    unfold encM mat
    simp only [encN, enc] at h3
    simp [-List.map_map, ir39, h1, h2, h3, encN, enc]
  · rw [if_neg hz]
    simp only [firstF, hz, if_false, List.map_cons, List.map_nil, encM, mat] at h1
    unfold encM mat
    simp [ir39, h1, hz, encN, enc, zN]
end Go.Proofs.YtmbdbkcifmkpbaaGreatDoor.Den
end
section
set_option linter.unusedVariables false
set_option linter.unusedSimpArgs false
namespace Go.Proofs.YtmbdbkcifmkpbaaGreatDoor.Den
open Go
open Go.Proofs.YtmbdbkcifmkpbaaGreatDoor.OwnA (u64s finF)
set_option maxRecDepth 10000
set_option maxHeartbeats 4000000
attribute [local simp] Ok_true Br_true Br_false rtV exec_none exec_some opV dstB dstW upd_nil upd_cons upd1_at args0_zero args0_succ args0_nil ev cellsV isDead notSelf allCell cellB shrL shr ownsL owns ownE elems frz noLst noLstL outV_ret outV_norm retV resL resV tupV nmL nm boolV isBoolV isSkV binV unV fillV chunk sizesB sizeV List.mapIdx_cons List.mapIdx_nil List.mapIdx List.mapIdx.go List.range List.range.loop List.map_cons List.map_nil Option.isSome_some Option.isSome_none Option.getD_some Option.map_some Option.bind_some Option.map_none Option.bind_none List.append_nil List.nil_append List.cons_append List.isEmpty_nil List.isEmpty_cons Bool.and_true Bool.true_and Bool.and_false Bool.false_and Bool.or_true Bool.or_false Bool.true_or Bool.false_or Bool.not_true Bool.not_false List.length_cons List.length_nil List.take List.drop List.getD_cons_zero List.getD_cons_succ List.getElem?_cons_zero List.getElem?_cons_succ List.replicate List.flatten Wp_skip Wp_exit Wp_ret Wp_kil Wp_reg Wp_dfr Wi_nil Wi_cons Wp_seq Wp_cond Wp_block seqQ_norm seqQ_exit seqQ_ret blkQ_norm blkQ_exit blkQ_ret nrQ_norm nrQ_exit nrQ_ret lpQ_norm lpQ_exit lpQ_ret outQ_norm outQ_ret rgQ_at kilR kil1 kil kilL sets List.set_cons_zero List.set_cons_succ kilR0 frzd isFz ren renL frV frQ_norm frQ_ret retFr shrF shrFL arrV1
attribute [local simp] wrap_id
/-- what comes of a matrix that is finite -/
theorem fin_fits {m : Mt} (h : finM m = 0) : 1 ≤ m.r ∧ m.r ≤ 64 ∧ 1 ≤ m.c ∧ m.c ≤ 64 ∧ m.l.length = m.r.toNat * m.c.toNat := by
  unfold finM finF at h
  split at h
  · rename_i hf
    unfold OwnA.fits at hf
    rw [Bool.and_eq_true, Bool.and_eq_true, OwnA.sideB_iff, OwnA.sideB_iff, decide_eq_true_iff] at hf
    obtain ⟨⟨a, b⟩, ⟨c, d⟩, e⟩ := hf
    refine ⟨a, b, c, d, ?_⟩
    have h1 : (m.r.toNat : Int) = m.r := Int.toNat_of_nonneg (by omega)
    have h2 : (m.c.toNat : Int) = m.c := Int.toNat_of_nonneg (by omega)
    have : ((m.l.length : Nat) : Int) = ((m.r.toNat * m.c.toNat : Nat) : Int) := by rw [Int.natCast_mul, h1, h2]; exact e
    exact Int.ofNat.inj this
  · exact absurd h (by decide)
/-- the numbers of a product -/
noncomputable def pN (a b : Mt) : List Num := prodN (fun i j => dotN (gat a.r.toNat a.c.toNat (a.l.map ofW) i) (fun k => gat b.r.toNat b.c.toNat (b.l.map ofW) k j) a.c.toNat) b.c.toNat a.r.toNat
theorem p30 {a b : Mt} (ha : finM a = 0) (hb : finM b = 0) : D E 34 [grd a.r a.c (a.l.map ofW), grd b.r b.c (b.l.map ofW)] = some (grd a.r b.c (pN a b)) := by
  obtain ⟨a1, a2, a3, a4, a5⟩ := fin_fits ha
  obtain ⟨b1, b2, b3, b4, b5⟩ := fin_fits hb
  have := c30 a.r.toNat a.c.toNat b.r.toNat b.c.toNat (a.l.map ofW) (b.l.map ofW) (GN_ofs _) (GN_ofs _) (by omega) (by omega) (by omega) (by omega) (by omega) (by rw [List.length_map]; exact a5) (by rw [List.length_map]; exact b5)
  rw [Int.toNat_of_nonneg (by omega), Int.toNat_of_nonneg (by omega), Int.toNat_of_nonneg (by omega), Int.toNat_of_nonneg (by omega)] at this
  rw [this]
  unfold pN
  rw [Int.toNat_of_nonneg (by omega), Int.toNat_of_nonneg (by omega), Int.toNat_of_nonneg (by omega), Int.toNat_of_nonneg (by omega)]
end Go.Proofs.YtmbdbkcifmkpbaaGreatDoor.Den
end
section
set_option linter.unusedVariables false
set_option linter.unusedSimpArgs false
namespace Go.Proofs.YtmbdbkcifmkpbaaGreatDoor.Den
open Go
open Go.Proofs.YtmbdbkcifmkpbaaGreatDoor.OwnA (sideB sideB_iff)
set_option maxRecDepth 10000
set_option maxHeartbeats 4000000
attribute [local simp] Ok_true Br_true Br_false rtV exec_none exec_some opV dstB dstW upd_nil upd_cons upd1_at args0_zero args0_succ args0_nil ev cellsV isDead notSelf allCell cellB shrL shr ownsL owns ownE elems frz noLst noLstL outV_ret outV_norm retV resL resV tupV nmL nm boolV isBoolV isSkV binV unV fillV chunk sizesB sizeV List.mapIdx_cons List.mapIdx_nil List.mapIdx List.mapIdx.go List.range List.range.loop List.map_cons List.map_nil Option.isSome_some Option.isSome_none Option.getD_some Option.map_some Option.bind_some Option.map_none Option.bind_none List.append_nil List.nil_append List.cons_append List.isEmpty_nil List.isEmpty_cons Bool.and_true Bool.true_and Bool.and_false Bool.false_and Bool.or_true Bool.or_false Bool.true_or Bool.false_or Bool.not_true Bool.not_false List.length_cons List.length_nil List.take List.drop List.getD_cons_zero List.getD_cons_succ List.getElem?_cons_zero List.getElem?_cons_succ List.replicate List.flatten Wp_skip Wp_exit Wp_ret Wp_kil Wp_reg Wp_dfr Wi_nil Wi_cons Wp_seq Wp_cond Wp_block seqQ_norm seqQ_exit seqQ_ret blkQ_norm blkQ_exit blkQ_ret nrQ_norm nrQ_exit nrQ_ret lpQ_norm lpQ_exit lpQ_ret outQ_norm outQ_ret rgQ_at kilR kil1 kil kilL sets List.set_cons_zero List.set_cons_succ kilR0 frzd isFz ren renL frV frQ_norm frQ_ret retFr shrF shrFL arrV1
attribute [local simp] wrap_id
theorem c62F (r c : Int) (m : Nat) (hr : sideB r = true) (hc : sideB c = true) (hm : r * c = m) : D E 1000029 [.int .i64 r, .int .i64 c] = some (.tup [.tup [.agg [.int .i64 r, .int .i64 c, .own 0 m], .int .i64 0], .arr true 1 58 (List.replicate m (.int .u64 0))]) := by
  refine prE (p := p62) (by kernel_rfl) ?_
  simp [p62, hr, hc, hm]
end Go.Proofs.YtmbdbkcifmkpbaaGreatDoor.Den
end
section
set_option linter.unusedVariables false
set_option linter.unusedSimpArgs false
namespace Go.Proofs.YtmbdbkcifmkpbaaGreatDoor.Den
open Go
set_option maxRecDepth 10000
set_option maxHeartbeats 4000000
attribute [local simp] Ok_true Br_true Br_false rtV exec_none exec_some opV dstB dstW upd_nil upd_cons upd1_at args0_zero args0_succ args0_nil ev cellsV isDead notSelf allCell cellB shrL shr ownsL owns ownE elems frz noLst noLstL outV_ret outV_norm retV resL resV tupV nmL nm boolV isBoolV isSkV binV unV fillV chunk sizesB sizeV List.mapIdx_cons List.mapIdx_nil List.mapIdx List.mapIdx.go List.range List.range.loop List.map_cons List.map_nil Option.isSome_some Option.isSome_none Option.getD_some Option.map_some Option.bind_some Option.map_none Option.bind_none List.append_nil List.nil_append List.cons_append List.isEmpty_nil List.isEmpty_cons Bool.and_true Bool.true_and Bool.and_false Bool.false_and Bool.or_true Bool.or_false Bool.true_or Bool.false_or Bool.not_true Bool.not_false List.length_cons List.length_nil List.take List.drop List.getD_cons_zero List.getD_cons_succ List.getElem?_cons_zero List.getElem?_cons_succ List.replicate List.flatten Wp_skip Wp_exit Wp_ret Wp_kil Wp_reg Wp_dfr Wi_nil Wi_cons Wp_seq Wp_cond Wp_block seqQ_norm seqQ_exit seqQ_ret blkQ_norm blkQ_exit blkQ_ret nrQ_norm nrQ_exit nrQ_ret lpQ_norm lpQ_exit lpQ_ret outQ_norm outQ_ret rgQ_at kilR kil1 kil kilL sets List.set_cons_zero List.set_cons_succ kilR0 frzd isFz ren renL frV frQ_norm frQ_ret retFr shrF shrFL arrV1
attribute [local simp] wrap_id kil_ownV kil_arrV kil_lv
end Go.Proofs.YtmbdbkcifmkpbaaGreatDoor.Den
end
section
set_option linter.unusedVariables false
set_option linter.unusedSimpArgs false
namespace Go.Proofs.YtmbdbkcifmkpbaaGreatDoor.Den
open Go
open Go.Proofs.YtmbdbkcifmkpbaaGreatDoor.OwnA (sideB sideB_iff fits)
set_option maxRecDepth 10000
set_option maxHeartbeats 4000000
attribute [local simp] Ok_true Br_true Br_false rtV exec_none exec_some opV dstB dstW upd_nil upd_cons upd1_at args0_zero args0_succ args0_nil ev cellsV isDead notSelf allCell cellB shrL shr ownsL owns ownE elems frz noLst noLstL outV_ret outV_norm retV resL resV tupV nmL nm boolV isBoolV isSkV binV unV fillV chunk sizesB sizeV List.mapIdx_cons List.mapIdx_nil List.mapIdx List.mapIdx.go List.range List.range.loop List.map_cons List.map_nil Option.isSome_some Option.isSome_none Option.getD_some Option.map_some Option.bind_some Option.map_none Option.bind_none List.append_nil List.nil_append List.cons_append List.isEmpty_nil List.isEmpty_cons Bool.and_true Bool.true_and Bool.and_false Bool.false_and Bool.or_true Bool.or_false Bool.true_or Bool.false_or Bool.not_true Bool.not_false List.length_cons List.length_nil List.take List.drop List.getD_cons_zero List.getD_cons_succ List.getElem?_cons_zero List.getElem?_cons_succ List.replicate List.flatten Wp_skip Wp_exit Wp_ret Wp_kil Wp_reg Wp_dfr Wi_nil Wi_cons Wp_seq Wp_cond Wp_block seqQ_norm seqQ_exit seqQ_ret blkQ_norm blkQ_exit blkQ_ret nrQ_norm nrQ_exit nrQ_ret lpQ_norm lpQ_exit lpQ_ret outQ_norm outQ_ret rgQ_at kilR kil1 kil kilL sets List.set_cons_zero List.set_cons_succ kilR0 frzd isFz ren renL frV frQ_norm frQ_ret retFr shrF shrFL arrV1
attribute [local simp] wrap_id
def cntB (u : Bool) (i j : Nat) : Bool := if u then decide (i ≤ j) else decide (j ≤ i)
theorem c67 (u : Bool) (i j : Nat) : D E 30 [.int .i64 i, .int .i64 j, .bool u] = some (.bool (cntB u i j)) := by
  refine wpE (F := ir30) (by kernel_rfl) (by kernel_rfl) ?_
  cases u with
  | true => simp [ir30, cntB]
  | false => simp [ir30, cntB]
theorem c66 (n : Int) : D E 50 [.int .i64 n] = some (.bool (sideB n)) := by
  refine wpE (F := ir50) (by kernel_rfl) (by kernel_rfl) ?_
  by_cases h : 1 ≤ n
  · have h' : n ≥ 1 := h
    simp [ir50, sideB, h, h']
  · have h' : ¬ n ≥ 1 := h
    have hb : decide (1 ≤ n) = false := decide_eq_false h
    simp [ir50, sideB, h, h', hb]
theorem c45 (r c : Nat) (l : List Int) (r0 : 1 ≤ r) (r1 : r ≤ 64) (c0 : 1 ≤ c) (c1 : c ≤ 64) (hl : l.length = r * c) : D E 25 [mat r c l] = some (.int .i64 0) := by
  refine wpE (F := ir25) (by kernel_rfl) (by kernel_rfl) ?_
  have h1 := c66 r
  have h2 := c66 c
  rw [show sideB (r : Int) = true from sideB_iff.2 ⟨by omega, by omega⟩] at h1
  rw [show sideB (c : Int) = true from sideB_iff.2 ⟨by omega, by omega⟩] at h2
  have hb : r * c ≤ 64 * 64 := Nat.mul_le_mul r1 c1
  have hm : (r : Int) * c = ((r * c : Nat) : Int) := by simp
  have hw : IntKind.i64.wrap ((r : Int) * c) = (r : Int) * c := by rw [hm]; exact wrap_id (by omega) (by omega)
  have hl2 : (l.length : Int) = (r : Int) * c := by rw [hl, hm]
  unfold mat
  simp [ir25, h1, h2, hw, hl2]
def hSt (l : List Int) (c : Nat) (u n : Bool) (i j : Nat) (A : List Int) : List Int := if i = j ∧ n = true then A.set (i * c + j) 4607182418800017408 else if cntB u i j = true then A.set (i * c + j) (l.getD (i * c + j) 0) else A
def hR (l : List Int) (c : Nat) (u n : Bool) (i : Nat) (A : List Int) : Nat → List Int
  | 0 => A
  | j + 1 => hSt l c u n i j (hR l c u n i A j)
def hA (l : List Int) (r c : Nat) (u n : Bool) : Nat → List Int
  | 0 => List.replicate (r * c) 0
  | i + 1 => hR l c u n i (hA l r c u n i) c
theorem hSt_len (l : List Int) (c : Nat) (u n : Bool) (i j : Nat) (A : List Int) : (hSt l c u n i j A).length = A.length := by
  unfold hSt
  split
  · rw [List.length_set]
  · split
    · rw [List.length_set]
    · rfl
theorem hR_len (l : List Int) (c : Nat) (u n : Bool) (i : Nat) (A : List Int) : ∀ j, (hR l c u n i A j).length = A.length
  | 0 => rfl
  | j + 1 => by rw [hR, hSt_len, hR_len l c u n i A j]
theorem hA_len (l : List Int) (r c : Nat) (u n : Bool) : ∀ i, (hA l r c u n i).length = r * c
  | 0 => by simp [hA]
  | i + 1 => by rw [hA, hR_len, hA_len l r c u n i]
theorem c46 (r c : Nat) (l : List Int) (u n : Bool) (r0 : 1 ≤ r) (r1 : r ≤ 64) (c0 : 1 ≤ c) (c1 : c ≤ 64) (hl : l.length = r * c) : D E 10 [mat r c l, .bool u, .bool n] = some (.tup [mat r c (hA l r c u n r), .int .i64 0]) := by
  refine wpE (F := ir10) (by kernel_rfl) (by kernel_rfl) ?_
  have h1 := c45 r c l r0 r1 c0 c1 hl
  have h2 := c62F r c (r * c) (sideB_iff.2 ⟨by omega, by omega⟩) (sideB_iff.2 ⟨by omega, by omega⟩) (by simp)
  have hb : r * c ≤ 64 * 64 := Nat.mul_le_mul r1 c1
  have hb2 : r * c ≤ big := by unfold big; omega
  unfold mat at *
  simp [ir10, h1, h2]
  refine Wp_loopS _ _ (fun i : Nat => [(30, .int .i64 i), (81, .arr true 1 58 ((hA l r c u n i).map (V.int .u64)))]) (fun i => i ≤ r) (fun i => r - i) 0 (Nat.zero_le _) (by simp [hA, List.map_replicate]) ?_
  intro i hi0
  by_cases hi : i < r
  · have hn : (i : Int) < (r : Int) := by omega
    have hw : IntKind.i64.wrap ((i : Int) + 1) = (i : Int) + 1 := wrap_id (by omega) (by omega)
    simp [hn]
    refine Wp_loopS _ _ (fun j : Nat => [(35, .int .i64 j), (81, .arr true 1 58 ((hR l c u n i (hA l r c u n i) j).map (V.int .u64)))]) (fun j => j ≤ c) (fun j => c - j) 0 (Nat.zero_le _) (by simp [hR]) ?_
    intro j hj0
    by_cases hj : j < c
    · have hjn : (j : Int) < (c : Int) := by omega
      have hjw : IntKind.i64.wrap ((j : Int) + 1) = (j : Int) + 1 := wrap_id (by omega) (by omega)
      have l1 : i * c + j < r * c := idx_lt hi hj
      obtain ⟨p1, hp1⟩ : ∃ p, i * c + j = p := ⟨_, rfl⟩
      obtain ⟨w1, w2⟩ := idx_w (by omega) c1 (by omega) hp1
      obtain ⟨q1, hq1⟩ : ∃ q : Int, ((i * c : Nat) : Int) = q := ⟨_, rfl⟩
      rw [hq1] at w1 w2
      have hS : hR l c u n i (hA l r c u n i) (j + 1) = hSt l c u n i j (hR l c u n i (hA l r c u n i) j) := rfl
      obtain ⟨A, hA2⟩ : ∃ A, hR l c u n i (hA l r c u n i) j = A := ⟨_, rfl⟩
      have hAl : A.length = r * c := by rw [← hA2, hR_len, hA_len]
      rw [hA2] at hS
      unfold hSt at hS
      rw [hp1] at l1 hS
      have l2 : p1 < A.length := by omega
      have l3 : p1 < l.length := by omega
      have hg : l.getD p1 0 = l[p1]'l3 := by rw [List.getD_eq_getElem?_getD, List.getElem?_eq_getElem l3]; rfl
      have h3 := c67 u i j
      rw [hg] at hS
      simp only [hA2]
      by_cases hij : i = j ∧ n = true
      · rw [if_pos hij] at hS
        obtain ⟨e1, e2⟩ := hij
        subst e1
        subst e2
        simp [hjn, hjw, w1, w2, hAl, l1, l2]
        refine nxt_i _ (i + 1) (show i + 1 ≤ c from hj) (show c - (i + 1) < c - i by omega) ?_
        simp [hS, List.map_set]
      · rw [if_neg hij] at hS
        cases hc : cntB u i j with
        | true =>
          rw [hc, if_pos rfl] at hS
          rw [hc] at h3
          by_cases e1 : i = j
          · have e2 : n = false := by
              cases n with
              | false => rfl
              | true => exact absurd ⟨e1, rfl⟩ hij
            subst e1
            subst e2
            simp [hjn, hjw, w1, w2, hAl, l1, l2, l3, h3]
            refine nxt_i _ (i + 1) (show i + 1 ≤ c from hj) (show c - (i + 1) < c - i by omega) ?_
            simp [hS, List.map_set]
          · have e3 : ¬ (i : Int) = (j : Int) := by omega
            have e4 : ((i : Int) == (j : Int)) = false := beq_eq_false_iff_ne.2 e3
            simp [hjn, hjw, w1, w2, hAl, l1, l2, l3, h3, e1, e3, e4]
            refine nxt_i _ (j + 1) (show j + 1 ≤ c from hj) (show c - (j + 1) < c - j by omega) ?_
            simp [hS, List.map_set]
        | false =>
          rw [hc, if_neg (by simp)] at hS
          rw [hc] at h3
          by_cases e1 : i = j
          · have e2 : n = false := by
              cases n with
              | false => rfl
              | true => exact absurd ⟨e1, rfl⟩ hij
            subst e1
            subst e2
            simp [hjn, hjw, w1, w2, hAl, l1, l2, l3, h3]
            refine nxt_i _ (i + 1) (show i + 1 ≤ c from hj) (show c - (i + 1) < c - i by omega) ?_
            simp [hS]
          · have e3 : ¬ (i : Int) = (j : Int) := by omega
            have e4 : ((i : Int) == (j : Int)) = false := beq_eq_false_iff_ne.2 e3
            simp [hjn, hjw, w1, w2, hAl, l1, l2, l3, h3, e1, e3, e4]
            refine nxt_i _ (j + 1) (show j + 1 ≤ c from hj) (show c - (j + 1) < c - j by omega) ?_
            simp [hS]
    · have hjn : ¬ (j : Int) < (c : Int) := by omega
      have hje : j = c := by omega
      rw [hje] at hjn ⊢
      simp [hjn, hw]
      refine nxt_i _ (i + 1) (show i + 1 ≤ r from hi) (show r - (i + 1) < r - i by omega) ?_
      simp [hA]
  · have hn : ¬ (i : Int) < (r : Int) := by omega
    have hie : i = r := by omega
    rw [hie] at hn ⊢
    simp [hn, hA_len]
end Go.Proofs.YtmbdbkcifmkpbaaGreatDoor.Den
end
section
set_option linter.unusedVariables false
set_option linter.unusedSimpArgs false
namespace Go.Proofs.YtmbdbkcifmkpbaaGreatDoor.Den
open Go
set_option maxRecDepth 10000
set_option maxHeartbeats 4000000
attribute [local simp] Ok_true Br_true Br_false rtV exec_none exec_some opV dstB dstW upd_nil upd_cons upd1_at args0_zero args0_succ args0_nil ev cellsV isDead notSelf allCell cellB shrL shr ownsL owns ownE elems frz noLst noLstL outV_ret outV_norm retV resL resV tupV nmL nm boolV isBoolV isSkV binV unV fillV chunk sizesB sizeV List.mapIdx_cons List.mapIdx_nil List.mapIdx List.mapIdx.go List.range List.range.loop List.map_cons List.map_nil Option.isSome_some Option.isSome_none Option.getD_some Option.map_some Option.bind_some Option.map_none Option.bind_none List.append_nil List.nil_append List.cons_append List.isEmpty_nil List.isEmpty_cons Bool.and_true Bool.true_and Bool.and_false Bool.false_and Bool.or_true Bool.or_false Bool.true_or Bool.false_or Bool.not_true Bool.not_false List.length_cons List.length_nil List.take List.drop List.getD_cons_zero List.getD_cons_succ List.getElem?_cons_zero List.getElem?_cons_succ List.replicate List.flatten Wp_skip Wp_exit Wp_ret Wp_kil Wp_reg Wp_dfr Wi_nil Wi_cons Wp_seq Wp_cond Wp_block seqQ_norm seqQ_exit seqQ_ret blkQ_norm blkQ_exit blkQ_ret nrQ_norm nrQ_exit nrQ_ret lpQ_norm lpQ_exit lpQ_ret outQ_norm outQ_ret rgQ_at kilR kil1 kil kilL sets List.set_cons_zero List.set_cons_succ kilR0 frzd isFz ren renL frV frQ_norm frQ_ret retFr shrF shrFL arrV1
attribute [local simp] wrap_id
theorem sizesB_u64 : ∀ l : List Int, sizesB 1 (l.map (V.int .u64)) = true
  | [] => rfl
  | x :: l => by
    rw [List.map_cons]
    unfold sizesB
    rw [sizesB_u64 l]
    rfl
theorem c68 (n m : Nat) (h0 : 1 ≤ n) (h1 : n ≤ m) (h2 : m ≤ 64) : D E 79 [.int .i64 0, .int .i64 n, .int .i64 m] = some (.bool true) := by
  refine wpE (F := ir79) (by kernel_rfl) (by kernel_rfl) ?_
  have e1 : (n : Int) ≥ 1 := by omega
  have e1' : (1 : Int) ≤ n := by omega
  have e1'' : 1 ≤ n := h0
  have e2 : (0 : Int) ≤ m := by omega
  have e3 : (n : Int) ≤ m := by omega
  have w : IntKind.i64.wrap (m : Int) = m := wrap_id (by omega) (by omega)
  simp [ir79, e1, e1', e2, e3, w, h0, h1]
theorem c69 (m n i : Nat) (l : List Int) (n1 : n ≤ 64) (m1 : m ≤ 64) (hi : i < m) (hl : l.length = m * n) : D E 80 [mat m n l, .int .i64 i] = some (.lst (((l.drop (i * n)).take n).map (V.int .u64))) := by
  refine wpE (F := ir80) (by kernel_rfl) (by kernel_rfl) ?_
  have hb : (i + 1) * n ≤ m * n := Nat.mul_le_mul_right n hi
  have hb2 : m * n ≤ 64 * 64 := Nat.mul_le_mul m1 n1
  rw [Nat.succ_mul] at hb
  have e1 : (i : Int) * n = ((i * n : Nat) : Int) := by simp
  have e2 : ((i : Int) + 1) * n = ((i * n + n : Nat) : Int) := by rw [Int.add_mul, Int.one_mul, e1]; simp
  have w0 : IntKind.i64.wrap ((i : Int) + 1) = (i : Int) + 1 := wrap_id (by omega) (by omega)
  obtain ⟨q, hq⟩ : ∃ q, i * n = q := ⟨_, rfl⟩
  rw [hq] at e1 e2 hb
  have w1 : IntKind.i64.wrap ((i : Int) * n) = (q : Int) := by rw [e1]; exact wrap_id (by omega) (by omega)
  have w2 : IntKind.i64.wrap (((i : Int) + 1) * n) = ((q + n : Nat) : Int) := by rw [e2]; exact wrap_id (by omega) (by omega)
  have hb3 : q + n ≤ l.length := by omega
  have hb4 : (q : Int) ≤ ((q + n : Nat) : Int) := by omega
  have hb5 : ((q + n : Nat) : Int) ≤ (l.length : Int) := by omega
  obtain ⟨t, ht⟩ : ∃ t, q + n = t := ⟨_, rfl⟩
  rw [ht] at w2 hb4 hb3 hb5
  have hqt : q ≤ t := by omega
  have htq : t - q = n := by omega
  rw [hq]
  unfold mat
  simp [ir80, w0, w1, w2, hb3, hb4, hb5, hqt, htq, sizesB_u64, List.map_take, List.map_drop]
theorem c47 (m n : Nat) (l : List Int) (n0 : 1 ≤ n) (hnm : n ≤ m) (m1 : m ≤ 64) (hl : l.length = m * n) : D E 47 [mat m n l, .int .i64 0, .int .i64 0, .int .i64 n, .int .i64 n] = some (.tup [mat n n (l.take (n * n)), .int .i64 0]) := by
  refine wpE (F := ir47) (by kernel_rfl) (by kernel_rfl) ?_
  have h1 := c45 m n l (by omega) m1 n0 (by omega) hl
  have h2 := c68 n m n0 hnm m1
  have h3 := c68 n n n0 (Nat.le_refl _) (by omega)
  have hc := fun i (hi : i < m) => c69 m n i l (by omega) m1 hi hl
  have wn : IntKind.i64.wrap (n : Int) = n := wrap_id (by omega) (by omega)
  have hnn : n * n ≤ 64 * 64 := Nat.mul_le_mul (by omega) (by omega)
  have hnl : n * n ≤ l.length := by rw [hl]; exact Nat.mul_le_mul_right n hnm
  have hn0 : (0 : Int) ≤ n := by omega
  unfold mat at *
  simp [ir47, h1, h2, h3]
  refine Wp_loopS _ _ (fun i : Nat => [(40, .int .i64 i), (67, ownV (i * n)), (68, arrV (i * n) 1 58 ((l.take (i * n)).map (V.int .u64)))]) (fun i => i ≤ n) (fun i => n - i) 0 (Nat.zero_le _) (by simp [ownV, arrV]) ?_
  intro i hi0
  by_cases hi : i < n
  · have hin : (i : Int) < (n : Int) := by omega
    have hw : IntKind.i64.wrap ((i : Int) + 1) = (i : Int) + 1 := wrap_id (by omega) (by omega)
    have hwi : IntKind.i64.wrap (i : Int) = (i : Int) := wrap_id (by omega) (by omega)
    have h4 := hc i (by omega)
    have hb : (i + 1) * n ≤ n * n := Nat.mul_le_mul_right n hi
    have hs : l.take ((i + 1) * n) = l.take (i * n) ++ (l.drop (i * n)).take n := by rw [Nat.succ_mul, List.take_add]
    have hz : i * n = 0 ↔ i = 0 := by
      rw [Nat.mul_eq_zero]
      omega
    have hq1 : (i + 1) * n = i * n + n := Nat.succ_mul i n
    obtain ⟨q, hq⟩ : ∃ q, i * n = q := ⟨_, rfl⟩
    obtain ⟨t, ht⟩ : ∃ t, (i + 1) * n = t := ⟨_, rfl⟩
    rw [hq] at h4 hs hz hq1
    rw [ht] at hb hs hq1
    obtain ⟨R, hR⟩ : ∃ R, (l.drop q).take n = R := ⟨_, rfl⟩
    have hRl : R.length = n := by rw [← hR, List.length_take, List.length_drop]; omega
    obtain ⟨A, hA⟩ : ∃ A, l.take q = A := ⟨_, rfl⟩
    have hAl : A.length = q := by rw [← hA, List.length_take]; omega
    rw [hR] at h4 hs
    rw [hA] at hs
    have hRt : (R.map (V.int .u64)).take n = R.map (V.int .u64) := List.take_of_length_le (by rw [List.length_map]; omega)
    have hb1 : n * 8 ≤ 140737488355328 := by omega
    have hb2 : n ≤ big := by unfold big; omega
    have hb3 : (q + n) * 8 ≤ 140737488355328 := by omega
    have hb4 : q + n ≤ big := by unfold big; omega
    have ht0 : ¬ t = 0 := by omega
    have hs' : (l.map (V.int .u64)).take t = A.map (V.int .u64) ++ R.map (V.int .u64) := by rw [← List.map_take, hs, List.map_append]
    have hn00 : 0 < n := n0
    have hq2 : q + n = t := hq1.symm
    simp only [hq, hA]
    by_cases h0 : i = 0
    · have hq0 : q = 0 := hz.2 h0
      have hA0 : A = [] := List.eq_nil_of_length_eq_zero (by omega)
      have htn : t = n := by omega
      subst h0
      subst hq0
      subst hA0
      have h4' : D E 80 [.agg [.int .i64 m, .int .i64 n, .lst (l.map (V.int .u64))], .int .i64 0] = some (.lst (R.map (V.int .u64))) := h4
      simp [ownV, arrV, hn00, h4', wn, hRl, hRt, sizesB_u64, hb1, hb2]
      refine nxt_i _ 1 (show 1 ≤ n from n0) (show n - 1 < n - 0 by omega) ?_
      have hs2 : (l.map (V.int .u64)).take n = R.map (V.int .u64) := by rw [← htn, hs']; rfl
      have hnz : ¬ n = 0 := by omega
      simp [ownV, arrV, hnz, hs2]
    · have hq0 : ¬ q = 0 := fun e => h0 (hz.1 e)
      simp [ownV, arrV, hin, hw, hwi, h4, wn, hRl, hRt, hAl, sizesB_u64, hb1, hb2, hb3, hb4, hq0]
      refine nxt_i _ (i + 1) (show i + 1 ≤ n from hi) (show n - (i + 1) < n - i by omega) ?_
      simp only [ht, hs']
      simp [ownV, arrV, ht0, hq2]
  · have hin : ¬ (i : Int) < (n : Int) := by omega
    have hie : i = n := by omega
    have hp : ¬ n * n = 0 := by
      have := Nat.mul_pos n0 n0
      omega
    rw [hie] at hin ⊢
    have hmn : min (n * n) l.length = n * n := Nat.min_eq_left hnl
    simp [hin, ownV, arrV, hp, hmn]
end Go.Proofs.YtmbdbkcifmkpbaaGreatDoor.Den
end
section
set_option linter.unusedVariables false
set_option linter.unusedSimpArgs false
namespace Go.Proofs.YtmbdbkcifmkpbaaGreatDoor.Den
open Go
set_option maxRecDepth 10000
set_option maxHeartbeats 4000000
attribute [local simp] Ok_true Br_true Br_false rtV exec_none exec_some opV dstB dstW upd_nil upd_cons upd1_at args0_zero args0_succ args0_nil ev cellsV isDead notSelf allCell cellB shrL shr ownsL owns ownE elems frz noLst noLstL outV_ret outV_norm retV resL resV tupV nmL nm boolV isBoolV isSkV binV unV fillV chunk sizesB sizeV List.mapIdx_cons List.mapIdx_nil List.mapIdx List.mapIdx.go List.range List.range.loop List.map_cons List.map_nil Option.isSome_some Option.isSome_none Option.getD_some Option.map_some Option.bind_some Option.map_none Option.bind_none List.append_nil List.nil_append List.cons_append List.isEmpty_nil List.isEmpty_cons Bool.and_true Bool.true_and Bool.and_false Bool.false_and Bool.or_true Bool.or_false Bool.true_or Bool.false_or Bool.not_true Bool.not_false List.length_cons List.length_nil List.take List.drop List.getD_cons_zero List.getD_cons_succ List.getElem?_cons_zero List.getElem?_cons_succ List.replicate List.flatten Wp_skip Wp_exit Wp_ret Wp_kil Wp_reg Wp_dfr Wi_nil Wi_cons Wp_seq Wp_cond Wp_block seqQ_norm seqQ_exit seqQ_ret blkQ_norm blkQ_exit blkQ_ret nrQ_norm nrQ_exit nrQ_ret lpQ_norm lpQ_exit lpQ_ret outQ_norm outQ_ret rgQ_at kilR kil1 kil kilL sets List.set_cons_zero List.set_cons_succ kilR0 frzd isFz ren renL frV frQ_norm frQ_ret retFr shrF shrFL arrV1
attribute [local simp] wrap_id kil_ownV kil_arrV kil_lv
def trN (r c : Nat) (M : List Num) : List Num := prodN (fun j i => gat r c M i j) r c
theorem c39 (r c : Nat) (M : List Num) (hr : r ≤ 64) (hc : c ≤ 64) (hM : M.length = r * c) : D E 48 [grd r c M] = some (grd c r (trN r c M)) := by
  unfold trN
  obtain ⟨f, hf⟩ : ∃ f : Nat → Nat → Num, f = fun j i => gat r c M i j := ⟨_, rfl⟩
  rw [← hf]
  refine wpE (F := ir48) (by kernel_rfl) (by kernel_rfl) ?_
  unfold grd
  simp [ir48]
  refine Wp_loopS _ _ (fun j : Nat => [(13, .int .i64 j), (41, ownV (prodN f r j).length), (42, arrV (prodN f r j).length 3 27 ((prodN f r j).map encN))]) (fun j => j ≤ c) (fun j => c - j) 0 (by omega) (by simp [ownV, arrV, prodN]) ?_
  intro j hj0
  by_cases hj : j < c
  · have hn : (j : Int) < (c : Int) := by omega
    have hw : IntKind.i64.wrap ((j : Int) + 1) = (j : Int) + 1 := wrap_id (by omega) (by omega)
    simp [hn]
    refine Wp_loopS _ _ (fun i : Nat => [(18, .int .i64 i), (41, ownV (accN f r j i).length), (42, arrV (accN f r j i).length 3 27 ((accN f r j i).map encN))]) (fun i => i ≤ r) (fun i => r - i) 0 (by omega) (by simp [accN_zero]) ?_
    intro i hi0
    by_cases hi : i < r
    · have hin : (i : Int) < (r : Int) := by omega
      have hiw : IntKind.i64.wrap ((i : Int) + 1) = (i : Int) + 1 := wrap_id (by omega) (by omega)
      have a1 := c51 r c M i j (by omega) (by omega) (by omega) (by omega) (fun _ => by rw [hM, Int.toNat_natCast]; exact idx_lt hi hj)
      simp only [grd, encN, enc] at a1
      have hln := accN_len f r j i
      have hle : j * r ≤ 64 * 64 := Nat.mul_le_mul (by omega) hr
      obtain ⟨A, hA⟩ : ∃ A, A = accN f r j i := ⟨_, rfl⟩
      rw [← hA] at hln ⊢
      have hb1 : (A.length + 1) * 40 ≤ 140737488355328 := by omega
      have hb2 : A.length + 1 ≤ big := by unfold big; omega
      have hs : accN f r j (i + 1) = A ++ [gat r c M i j] := by rw [hA, accN_succ, hf]
      by_cases h0 : A.length = 0
      · have hA0 : A = [] := List.eq_nil_of_length_eq_zero h0
        have hn1 : 1 ≤ big := by unfold big; omega
        rw [hA0] at hs ⊢
        simp [hin, ownV, arrV, hn1, hiw, encN, enc, a1]
        refine nxt_i _ (i + 1) hi (by show r - (i + 1) < r - i; omega) ?_
        rw [hs]
        simp [ownV, arrV, encN, enc]
      · simp [hin, ownV, arrV, h0, hb1, hb2, hiw, encN, enc, a1]
        refine nxt_i _ (i + 1) hi (by show r - (i + 1) < r - i; omega) ?_
        rw [hs]
        simp [ownV, arrV, encN, enc]
    · have hin : ¬ (i : Int) < (r : Int) := by omega
      have hie : i = r := by omega
      rw [hie] at hin ⊢
      simp [hin, hw]
      refine nxt_i _ (j + 1) hj (by show c - (j + 1) < c - j; omega) ?_
      rw [← accN_full]
      simp
  · have hn : ¬ (j : Int) < (c : Int) := by omega
    have hje : j = c := by omega
    rw [hje] at hn ⊢
    by_cases h0 : (prodN f r c).length = 0
    · have hA0 : prodN f r c = [] := List.eq_nil_of_length_eq_zero h0
      rw [hA0]
      simp [hn, ownV, arrV]
    · simp [hn, ownV, arrV, h0]
end Go.Proofs.YtmbdbkcifmkpbaaGreatDoor.Den
end
