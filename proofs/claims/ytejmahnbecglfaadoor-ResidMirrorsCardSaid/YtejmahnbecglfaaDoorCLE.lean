/- Parts of the proof, joined: Two triangles; the stage's answers about triangles. How far a triangle's square is off. -/
import Derived.Test.YtejmahnbecglfaaDoorCLD
import Derived.Test.YtejmahnbecglfaaDoorCLB
import Derived.Test.YtejmahnbecglfaaDoorCLC
section
set_option linter.unusedVariables false
set_option linter.unusedSimpArgs false
namespace Go.Proofs.YtejmahnbecglfaaDoor.Den
open Go
set_option maxRecDepth 10000
set_option maxHeartbeats 4000000
attribute [local simp] Ok_true Br_true Br_false rtV exec_none exec_some opV dstB dstW upd_nil upd_cons upd1_at args0_zero args0_succ args0_nil ev cellsV isDead notSelf allCell cellB shrL shr ownsL owns ownE elems frz noLst noLstL outV_ret outV_norm retV resL resV tupV nmL nm boolV isBoolV isSkV binV unV fillV chunk sizesB sizeV List.mapIdx_cons List.mapIdx_nil List.mapIdx List.mapIdx.go List.range List.range.loop List.map_cons List.map_nil Option.isSome_some Option.isSome_none Option.getD_some Option.map_some Option.bind_some Option.map_none Option.bind_none List.append_nil List.nil_append List.cons_append List.isEmpty_nil List.isEmpty_cons Bool.and_true Bool.true_and Bool.and_false Bool.false_and Bool.or_true Bool.or_false Bool.true_or Bool.false_or Bool.not_true Bool.not_false List.length_cons List.length_nil List.take List.drop List.getD_cons_zero List.getD_cons_succ List.getElem?_cons_zero List.getElem?_cons_succ List.replicate List.flatten Wp_skip Wp_exit Wp_ret Wp_kil Wp_reg Wi_nil Wi_cons Wp_seq Wp_cond Wp_block seqQ_norm seqQ_exit seqQ_ret blkQ_norm blkQ_exit blkQ_ret nrQ_norm nrQ_exit nrQ_ret lpQ_norm lpQ_exit lpQ_ret outQ_norm outQ_ret rgQ_at kilR kil1 kil kilL sets List.set_cons_zero List.set_cons_succ kilR0 frzd isFz ren renL frV frQ_norm frQ_ret retFr shrF shrFL arrV1
attribute [local simp] wrap_id
def loL (m n : Nat) (l : List Int) : List Int := hA l m n false true m
def upL (n : Nat) (l : List Int) : List Int := hA (l.take (n * n)) n n true false n
theorem loL_len (m n : Nat) (l : List Int) : (loL m n l).length = m * n := hA_len ..
theorem upL_len (n : Nat) (l : List Int) : (upL n l).length = n * n := hA_len ..
theorem c25 (m n : Nat) (l : List Int) (n0 : 1 ≤ n) (hnm : n ≤ m) (m1 : m ≤ 64) (hl : l.length = m * n) : D E 25 [mat m n l] = some (.tup [mat m n (loL m n l), mat n n (upL n l), .int .i64 0]) := by
  refine wpE (F := ir25) (by kernel_rfl) (by kernel_rfl) ?_
  have h1 := c45 m n l (by omega) m1 n0 (by omega) hl
  have h2 := c46 m n l false true (by omega) m1 n0 (by omega) hl
  have h3 := c47 m n l n0 hnm m1 hl
  have hnl : n * n ≤ l.length := by rw [hl]; exact Nat.mul_le_mul_right n hnm
  have h4 := c46 n n (l.take (n * n)) true false n0 (by omega) n0 (by omega) (by rw [List.length_take]; omega)
  have e1 : ¬ (m : Int) < (n : Int) := by omega
  have e2 : ¬ m < n := by omega
  unfold mat loL upL at *
  obtain ⟨L1, hL1⟩ : ∃ L, hA l m n false true m = L := ⟨_, rfl⟩
  obtain ⟨L2, hL2⟩ : ∃ L, l.take (n * n) = L := ⟨_, rfl⟩
  rw [hL2] at h3 h4 ⊢
  obtain ⟨L3, hL3⟩ : ∃ L, hA L2 n n true false n = L := ⟨_, rfl⟩
  rw [hL1] at h2 ⊢
  rw [hL3] at h4 ⊢
  simp [ir25, h1, h2, h3, h4, e1, e2]
end Go.Proofs.YtejmahnbecglfaaDoor.Den
end
section
set_option linter.unusedVariables false
set_option linter.unusedSimpArgs false
namespace Go.Proofs.YtejmahnbecglfaaDoor.Den
open Go
open Go.Proofs.YtejmahnbecglfaaDoor.OwnA (u64s finF)
set_option maxRecDepth 10000
set_option maxHeartbeats 4000000
attribute [local simp] Ok_true Br_true Br_false rtV exec_none exec_some opV dstB dstW upd_nil upd_cons upd1_at args0_zero args0_succ args0_nil ev cellsV isDead notSelf allCell cellB shrL shr ownsL owns ownE elems frz noLst noLstL outV_ret outV_norm retV resL resV tupV nmL nm boolV isBoolV isSkV binV unV fillV chunk sizesB sizeV List.mapIdx_cons List.mapIdx_nil List.mapIdx List.mapIdx.go List.range List.range.loop List.map_cons List.map_nil Option.isSome_some Option.isSome_none Option.getD_some Option.map_some Option.bind_some Option.map_none Option.bind_none List.append_nil List.nil_append List.cons_append List.isEmpty_nil List.isEmpty_cons Bool.and_true Bool.true_and Bool.and_false Bool.false_and Bool.or_true Bool.or_false Bool.true_or Bool.false_or Bool.not_true Bool.not_false List.length_cons List.length_nil List.take List.drop List.getD_cons_zero List.getD_cons_succ List.getElem?_cons_zero List.getElem?_cons_succ List.replicate List.flatten Wp_skip Wp_exit Wp_ret Wp_kil Wp_reg Wi_nil Wi_cons Wp_seq Wp_cond Wp_block seqQ_norm seqQ_exit seqQ_ret blkQ_norm blkQ_exit blkQ_ret nrQ_norm nrQ_exit nrQ_ret lpQ_norm lpQ_exit lpQ_ret outQ_norm outQ_ret rgQ_at kilR kil1 kil kilL sets List.set_cons_zero List.set_cons_succ kilR0 frzd isFz ren renL frV frQ_norm frQ_ret retFr shrF shrFL arrV1
attribute [local simp] wrap_id
theorem GN_row2 {f : Nat → Num} (h : ∀ i, GN (f i)) : ∀ n, ∀ x ∈ rowN f n, GN x
  | 0, x, hx => by simp [rowN] at hx
  | n + 1, x, hx => by
    rw [rowN, List.mem_append] at hx
    rcases hx with hx | hx
    · exact GN_row2 h n x hx
    · simp only [List.mem_cons, List.not_mem_nil, or_false] at hx
      rw [hx]; exact h n
theorem GN_prod2 {f : Nat → Nat → Num} (h : ∀ i j, GN (f i j)) (m : Nat) : ∀ n, ∀ x ∈ prodN f m n, GN x
  | 0, x, hx => by simp [prodN] at hx
  | n + 1, x, hx => by
    rw [prodN, List.mem_append] at hx
    rcases hx with hx | hx
    · exact GN_prod2 h m n x hx
    · exact GN_row2 (h n) m x hx
theorem c23e (a f : Mt) (ua : u64s a.l) (uf : u64s f.l) (h : firstF [a, f] ≠ 0) : D E 23 [encM a, encM f] = some (.tup [encN zN, .int .i64 (firstF [a, f])]) := by
  refine wpE (F := ir23) (by kernel_rfl) (by kernel_rfl) ?_
  have h1 := c26 [a, f] (by simp; exact ⟨ua, uf⟩) (by simp)
  generalize firstF [a, f] = e at h h1 ⊢
  simp only [List.map_cons, List.map_nil, encM, mat] at h1
  unfold encM mat
  simp [-List.map_map, ir23, h1, h, encN, enc, zN]
theorem c23o (a f : Mt) (ua : u64s a.l) (uf : u64s f.l) (h : firstF [a, f] = 0) (ho : ¬ (a.r = a.c ∧ f.r = a.r ∧ f.c = a.r)) : D E 23 [encM a, encM f] = some (.tup [encN zN, .int .i64 11]) := by
  refine wpE (F := ir23) (by kernel_rfl) (by kernel_rfl) ?_
  have h1 := c26 [a, f] (by simp; exact ⟨ua, uf⟩) (by simp)
  rw [h] at h1
  simp only [List.map_cons, List.map_nil, encM, mat] at h1
  unfold encM mat
  by_cases e1 : a.r = a.c
  · by_cases e2 : f.r = a.r
    · have e3 : f.c ≠ a.r := fun e => ho ⟨e1, e2, e⟩
      rw [e2] at h1
      rw [e2]
      rw [e1] at h1 e3 ⊢
      simp [-List.map_map, ir23, h1, e3, encN, enc, zN]
    · rw [e1] at h1 e2 ⊢
      simp [-List.map_map, ir23, h1, e2, encN, enc, zN]
  · simp [-List.map_map, ir23, h1, e1, encN, enc, zN]
noncomputable def chP (n : Nat) (f : List Int) : List Num := prodN (fun i j => dotN (gat n n (f.map ofW) i) (fun k => gat n n (trN n n (f.map ofW)) k j) n) n n
theorem GN_tr {r c : Nat} {M : List Num} (h : ∀ x ∈ M, GN x) : ∀ x ∈ trN r c M, GN x := GN_prod2 (fun j i => GN_gat h i j) _ _
theorem trN_len (r c : Nat) (M : List Num) : (trN r c M).length = c * r := prodN_len ..
theorem GN_chP (n : Nat) (f : List Int) : ∀ x ∈ chP n f, GN x := GN_prod2 (fun i j => GN_dot (fun k => GN_gat (GN_ofs _) _ _) (fun k => GN_gat (GN_tr (GN_ofs _)) _ _) _) _ _
theorem GN_zip {A B : List Num} (hA : ∀ x ∈ A, GN x) (hB : ∀ x ∈ B, GN x) : ∀ x ∈ List.zipWith subN A B, GN x := by
  intro x hx
  rw [List.mem_iff_getElem] at hx
  obtain ⟨i, hi, rfl⟩ := hx
  rw [List.getElem_zipWith]
  exact GN_sub (hA _ (List.getElem_mem _)) (hB _ (List.getElem_mem _))
theorem c23t (n : Nat) (a f : List Int) (n0 : 1 ≤ n) (n1 : n ≤ 64) (ua : u64s a) (uf : u64s f) (h : firstF [⟨n, n, a⟩, ⟨n, n, f⟩] = 0) (ha : a.length = n * n) (hf : f.length = n * n) :
    D E 23 [mat n n a, mat n n f] = some (.tup [encN ((List.zipWith subN (a.map ofW) (chP n f)).foldl mostP zN), .int .i64 0]) := by
  refine wpE (F := ir23) (by kernel_rfl) (by kernel_rfl) ?_
  have h1 := c26 [⟨n, n, a⟩, ⟨n, n, f⟩] (by simp; exact ⟨ua, uf⟩) (by simp)
  rw [h] at h1
  have hb : n * n ≤ 64 * 64 := Nat.mul_le_mul n1 n1
  have h2 := c27 n n a (by omega)
  have h3 := c27 n n f (by omega)
  have h4 := c39 n n (f.map ofW) n1 n1 (by rw [List.length_map]; exact hf)
  have h5 := c30 n n n n (f.map ofW) (trN n n (f.map ofW)) (GN_ofs _) (GN_tr (GN_ofs _)) n0 n1 n1 n1 n1 (by rw [List.length_map]; exact hf) (trN_len ..)
  have hP : (a.map ofW).length = (chP n f).length := by rw [List.length_map, ha]; exact (prodN_len ..).symm
  have h6 := c29 n n n n (a.map ofW) (chP n f) (GN_ofs _) (GN_chP n f) (by rw [List.length_map]; omega) hP
  have h7 := c28 n n (List.zipWith subN (a.map ofW) (chP n f)) (GN_zip (GN_ofs _) (GN_chP n f)) (by rw [List.length_zipWith, List.length_map]; omega)
  change D E 30 [_, _] = some (grd n n (chP n f)) at h5
  generalize List.zipWith subN (a.map ofW) (chP n f) = Z at h6 h7 ⊢
  generalize Z.foldl mostP zN = y at h7 ⊢
  generalize chP n f = C at h5 h6
  generalize trN n n (f.map ofW) = T at h4 h5
  simp only [List.map_cons, List.map_nil, encM, mat, grd, encN, enc] at h1 h2 h3 h4 h5 h6 h7
  unfold mat
  simp [-List.map_map, ir23, h1, h2, h3, h4, h5, h6, h7, encN, enc]
end Go.Proofs.YtejmahnbecglfaaDoor.Den
end
