/- Parts of the proof, joined: Two triangles; the stage's answers about triangles. How far a triangle's square is off. How far two triangles are off. Rows that change places, as values. The program's answers: errors; Product. The program's answers: Product. The program's answers: Product of other shapes. -/
import Derived.Test.YtmbdbkcifmkpbaaGreatDoorCLD
import Derived.Test.YtmbdbkcifmkpbaaGreatDoorCLC
section
set_option linter.unusedVariables false
set_option linter.unusedSimpArgs false
namespace Go.Proofs.YtmbdbkcifmkpbaaGreatDoor.Den
open Go
set_option maxRecDepth 10000
set_option maxHeartbeats 4000000
attribute [local simp] Ok_true Br_true Br_false rtV exec_none exec_some opV dstB dstW upd_nil upd_cons upd1_at args0_zero args0_succ args0_nil ev cellsV isDead notSelf allCell cellB shrL shr ownsL owns ownE elems frz noLst noLstL outV_ret outV_norm retV resL resV tupV nmL nm boolV isBoolV isSkV binV unV fillV chunk sizesB sizeV List.mapIdx_cons List.mapIdx_nil List.mapIdx List.mapIdx.go List.range List.range.loop List.map_cons List.map_nil Option.isSome_some Option.isSome_none Option.getD_some Option.map_some Option.bind_some Option.map_none Option.bind_none List.append_nil List.nil_append List.cons_append List.isEmpty_nil List.isEmpty_cons Bool.and_true Bool.true_and Bool.and_false Bool.false_and Bool.or_true Bool.or_false Bool.true_or Bool.false_or Bool.not_true Bool.not_false List.length_cons List.length_nil List.take List.drop List.getD_cons_zero List.getD_cons_succ List.getElem?_cons_zero List.getElem?_cons_succ List.replicate List.flatten Wp_skip Wp_exit Wp_ret Wp_kil Wp_reg Wp_dfr Wi_nil Wi_cons Wp_seq Wp_cond Wp_block seqQ_norm seqQ_exit seqQ_ret blkQ_norm blkQ_exit blkQ_ret nrQ_norm nrQ_exit nrQ_ret lpQ_norm lpQ_exit lpQ_ret outQ_norm outQ_ret rgQ_at kilR kil1 kil kilL sets List.set_cons_zero List.set_cons_succ kilR0 frzd isFz ren renL frV frQ_norm frQ_ret retFr shrF shrFL arrV1
attribute [local simp] wrap_id
def loL (m n : Nat) (l : List Int) : List Int := hA l m n false true m
def upL (n : Nat) (l : List Int) : List Int := hA (l.take (n * n)) n n true false n
theorem loL_len (m n : Nat) (l : List Int) : (loL m n l).length = m * n := hA_len ..
theorem upL_len (n : Nat) (l : List Int) : (upL n l).length = n * n := hA_len ..
theorem c25 (m n : Nat) (l : List Int) (n0 : 1 ≤ n) (hnm : n ≤ m) (m1 : m ≤ 64) (hl : l.length = m * n) : D E 20 [mat m n l] = some (.tup [mat m n (loL m n l), mat n n (upL n l), .int .i64 0]) := by
  refine wpE (F := ir20) (by kernel_rfl) (by kernel_rfl) ?_
  have h1 := c45 m n l (by omega) m1 n0 (by omega) hl
  have h2 := c46 m n l false true (by omega) m1 n0 (by omega) hl
  have h3 := c47 m n l n0 hnm m1 hl
  have hnl : n * n ≤ l.length := by rw [hl]; exact Nat.mul_le_mul_right n hnm
  have h4 := c46 n n (l.take (n * n)) true false n0 (by omega) n0 (by omega) (by rw [List.length_take]; omega)
  have e1 : ¬ (m : Int) < (n : Int) := by omega
  have e2 : ¬ m < n := by omega
  unfold mat loL upL at *
  obtain ⟨L1, hL1⟩ : ∃ L, hA l m n false true m = L := ⟨_, rfl⟩
  obtain ⟨L2, hL2⟩ : ∃ L, l.take (n * n) = L := ⟨_, rfl⟩
  rw [hL2] at h3 h4 ⊢
  obtain ⟨L3, hL3⟩ : ∃ L, hA L2 n n true false n = L := ⟨_, rfl⟩
  rw [hL1] at h2 ⊢
  rw [hL3] at h4 ⊢
  simp [ir20, h1, h2, h3, h4, e1, e2]
end Go.Proofs.YtmbdbkcifmkpbaaGreatDoor.Den
end
section
set_option linter.unusedVariables false
set_option linter.unusedSimpArgs false
namespace Go.Proofs.YtmbdbkcifmkpbaaGreatDoor.Den
open Go
open Go.Proofs.YtmbdbkcifmkpbaaGreatDoor.OwnA (u64s finF)
set_option maxRecDepth 10000
set_option maxHeartbeats 4000000
attribute [local simp] Ok_true Br_true Br_false rtV exec_none exec_some opV dstB dstW upd_nil upd_cons upd1_at args0_zero args0_succ args0_nil ev cellsV isDead notSelf allCell cellB shrL shr ownsL owns ownE elems frz noLst noLstL outV_ret outV_norm retV resL resV tupV nmL nm boolV isBoolV isSkV binV unV fillV chunk sizesB sizeV List.mapIdx_cons List.mapIdx_nil List.mapIdx List.mapIdx.go List.range List.range.loop List.map_cons List.map_nil Option.isSome_some Option.isSome_none Option.getD_some Option.map_some Option.bind_some Option.map_none Option.bind_none List.append_nil List.nil_append List.cons_append List.isEmpty_nil List.isEmpty_cons Bool.and_true Bool.true_and Bool.and_false Bool.false_and Bool.or_true Bool.or_false Bool.true_or Bool.false_or Bool.not_true Bool.not_false List.length_cons List.length_nil List.take List.drop List.getD_cons_zero List.getD_cons_succ List.getElem?_cons_zero List.getElem?_cons_succ List.replicate List.flatten Wp_skip Wp_exit Wp_ret Wp_kil Wp_reg Wp_dfr Wi_nil Wi_cons Wp_seq Wp_cond Wp_block seqQ_norm seqQ_exit seqQ_ret blkQ_norm blkQ_exit blkQ_ret nrQ_norm nrQ_exit nrQ_ret lpQ_norm lpQ_exit lpQ_ret outQ_norm outQ_ret rgQ_at kilR kil1 kil kilL sets List.set_cons_zero List.set_cons_succ kilR0 frzd isFz ren renL frV frQ_norm frQ_ret retFr shrF shrFL arrV1
attribute [local simp] wrap_id
theorem GN_row2 {f : Nat → Num} (h : ∀ i, GN (f i)) : ∀ n, ∀ x ∈ rowN f n, GN x
  | 0, x, hx => by simp [rowN] at hx
  | n + 1, x, hx => by
    rw [rowN, List.mem_append] at hx
    rcases hx with hx | hx
    · exact GN_row2 h n x hx
    · simp only [List.mem_cons, List.not_mem_nil, or_false] at hx
      rw [hx]; exact h n
theorem GN_prod2 {f : Nat → Nat → Num} (h : ∀ i j, GN (f i j)) (m : Nat) : ∀ n, ∀ x ∈ prodN f m n, GN x
  | 0, x, hx => by simp [prodN] at hx
  | n + 1, x, hx => by
    rw [prodN, List.mem_append] at hx
    rcases hx with hx | hx
    · exact GN_prod2 h m n x hx
    · exact GN_row2 (h n) m x hx
theorem c23e (a f : Mt) (ua : u64s a.l) (uf : u64s f.l) (h : firstF [a, f] ≠ 0) : D E 22 [encM a, encM f] = some (.tup [encN zN, .int .i64 (firstF [a, f])]) := by
  refine wpE (F := ir22) (by kernel_rfl) (by kernel_rfl) ?_
  have h1 := c26 [a, f] (by simp; exact ⟨ua, uf⟩) (by simp)
  generalize firstF [a, f] = e at h h1 ⊢
  simp only [List.map_cons, List.map_nil, encM, mat] at h1
  unfold encM mat
  simp [-List.map_map, ir22, h1, h, encN, enc, zN]
theorem c23o (a f : Mt) (ua : u64s a.l) (uf : u64s f.l) (h : firstF [a, f] = 0) (ho : ¬ (a.r = a.c ∧ f.r = a.r ∧ f.c = a.r)) : D E 22 [encM a, encM f] = some (.tup [encN zN, .int .i64 11]) := by
  refine wpE (F := ir22) (by kernel_rfl) (by kernel_rfl) ?_
  have h1 := c26 [a, f] (by simp; exact ⟨ua, uf⟩) (by simp)
  rw [h] at h1
  simp only [List.map_cons, List.map_nil, encM, mat] at h1
  unfold encM mat
  by_cases e1 : a.r = a.c
  · by_cases e2 : f.r = a.r
    · have e3 : f.c ≠ a.r := fun e => ho ⟨e1, e2, e⟩
      rw [e2] at h1
      rw [e2]
      rw [e1] at h1 e3 ⊢
      simp [-List.map_map, ir22, h1, e3, encN, enc, zN]
    · rw [e1] at h1 e2 ⊢
      simp [-List.map_map, ir22, h1, e2, encN, enc, zN]
  · simp [-List.map_map, ir22, h1, e1, encN, enc, zN]
noncomputable def chP (n : Nat) (f : List Int) : List Num := prodN (fun i j => dotN (gat n n (f.map ofW) i) (fun k => gat n n (trN n n (f.map ofW)) k j) n) n n
theorem GN_tr {r c : Nat} {M : List Num} (h : ∀ x ∈ M, GN x) : ∀ x ∈ trN r c M, GN x := GN_prod2 (fun j i => GN_gat h i j) _ _
theorem trN_len (r c : Nat) (M : List Num) : (trN r c M).length = c * r := prodN_len ..
theorem GN_chP (n : Nat) (f : List Int) : ∀ x ∈ chP n f, GN x := GN_prod2 (fun i j => GN_dot (fun k => GN_gat (GN_ofs _) _ _) (fun k => GN_gat (GN_tr (GN_ofs _)) _ _) _) _ _
theorem GN_zip {A B : List Num} (hA : ∀ x ∈ A, GN x) (hB : ∀ x ∈ B, GN x) : ∀ x ∈ List.zipWith subN A B, GN x := by
  intro x hx
  rw [List.mem_iff_getElem] at hx
  obtain ⟨i, hi, rfl⟩ := hx
  rw [List.getElem_zipWith]
  exact GN_sub (hA _ (List.getElem_mem _)) (hB _ (List.getElem_mem _))
theorem c23t (n : Nat) (a f : List Int) (n0 : 1 ≤ n) (n1 : n ≤ 64) (ua : u64s a) (uf : u64s f) (h : firstF [⟨n, n, a⟩, ⟨n, n, f⟩] = 0) (ha : a.length = n * n) (hf : f.length = n * n) :
    D E 22 [mat n n a, mat n n f] = some (.tup [encN ((List.zipWith subN (a.map ofW) (chP n f)).foldl mostP zN), .int .i64 0]) := by
  refine wpE (F := ir22) (by kernel_rfl) (by kernel_rfl) ?_
  have h1 := c26 [⟨n, n, a⟩, ⟨n, n, f⟩] (by simp; exact ⟨ua, uf⟩) (by simp)
  rw [h] at h1
  have hb : n * n ≤ 64 * 64 := Nat.mul_le_mul n1 n1
  have h2 := c27 n n a (by omega)
  have h3 := c27 n n f (by omega)
  have h4 := c39 n n (f.map ofW) n1 n1 (by rw [List.length_map]; exact hf)
  have h5 := c30 n n n n (f.map ofW) (trN n n (f.map ofW)) (GN_ofs _) (GN_tr (GN_ofs _)) n0 n1 n1 n1 n1 (by rw [List.length_map]; exact hf) (trN_len ..)
  have hP : (a.map ofW).length = (chP n f).length := by rw [List.length_map, ha]; exact (prodN_len ..).symm
  have h6 := c29 n n n n (a.map ofW) (chP n f) (GN_ofs _) (GN_chP n f) (by rw [List.length_map]; omega) hP
  have h7 := c28 n n (List.zipWith subN (a.map ofW) (chP n f)) (GN_zip (GN_ofs _) (GN_chP n f)) (by rw [List.length_zipWith, List.length_map]; omega)
  change D E 34 [_, _] = some (grd n n (chP n f)) at h5
  generalize List.zipWith subN (a.map ofW) (chP n f) = Z at h6 h7 ⊢
  generalize Z.foldl mostP zN = y at h7 ⊢
  generalize chP n f = C at h5 h6
  generalize trN n n (f.map ofW) = T at h4 h5
  simp only [List.map_cons, List.map_nil, encM, mat, grd, encN, enc] at h1 h2 h3 h4 h5 h6 h7
  unfold mat
  simp [-List.map_map, ir22, h1, h2, h3, h4, h5, h6, h7, encN, enc]
end Go.Proofs.YtmbdbkcifmkpbaaGreatDoor.Den
end
section
set_option linter.unusedVariables false
set_option linter.unusedSimpArgs false
namespace Go.Proofs.YtmbdbkcifmkpbaaGreatDoor.Den
open Go
open Go.Proofs.YtmbdbkcifmkpbaaGreatDoor.OwnA (u64s finF)
set_option maxRecDepth 10000
set_option maxHeartbeats 4000000
attribute [local simp] Ok_true Br_true Br_false rtV exec_none exec_some opV dstB dstW upd_nil upd_cons upd1_at args0_zero args0_succ args0_nil ev cellsV isDead notSelf allCell cellB shrL shr ownsL owns ownE elems frz noLst noLstL outV_ret outV_norm retV resL resV tupV nmL nm boolV isBoolV isSkV binV unV fillV chunk sizesB sizeV List.mapIdx_cons List.mapIdx_nil List.mapIdx List.mapIdx.go List.range List.range.loop List.map_cons List.map_nil Option.isSome_some Option.isSome_none Option.getD_some Option.map_some Option.bind_some Option.map_none Option.bind_none List.append_nil List.nil_append List.cons_append List.isEmpty_nil List.isEmpty_cons Bool.and_true Bool.true_and Bool.and_false Bool.false_and Bool.or_true Bool.or_false Bool.true_or Bool.false_or Bool.not_true Bool.not_false List.length_cons List.length_nil List.take List.drop List.getD_cons_zero List.getD_cons_succ List.getElem?_cons_zero List.getElem?_cons_succ List.replicate List.flatten Wp_skip Wp_exit Wp_ret Wp_kil Wp_reg Wp_dfr Wi_nil Wi_cons Wp_seq Wp_cond Wp_block seqQ_norm seqQ_exit seqQ_ret blkQ_norm blkQ_exit blkQ_ret nrQ_norm nrQ_exit nrQ_ret lpQ_norm lpQ_exit lpQ_ret outQ_norm outQ_ret rgQ_at kilR kil1 kil kilL sets List.set_cons_zero List.set_cons_succ kilR0 frzd isFz ren renL frV frQ_norm frQ_ret retFr shrF shrFL arrV1
attribute [local simp] wrap_id
def sws (s : List Int) : V := .lst (s.map (V.int .i64))
theorem c22e (a f : Mt) (s : List Int) (ua : u64s a.l) (uf : u64s f.l) (h : firstF [a, f] ≠ 0) : D E 18 [encM a, encM f, sws s] = some (.tup [encN zN, .int .i64 (firstF [a, f])]) := by
  refine wpE (F := ir18) (by kernel_rfl) (by kernel_rfl) ?_
  have h1 := c26 [a, f] (by simp; exact ⟨ua, uf⟩) (by simp)
  generalize firstF [a, f] = e at h h1 ⊢
  simp only [List.map_cons, List.map_nil, encM, mat] at h1
  unfold encM mat sws
  simp [-List.map_map, ir18, h1, h, encN, enc, zN]
theorem c22o (a f : Mt) (s : List Int) (ua : u64s a.l) (uf : u64s f.l) (h : firstF [a, f] = 0) (ho : ¬ (a.r = f.r ∧ a.c = f.c ∧ a.c ≤ a.r)) : D E 18 [encM a, encM f, sws s] = some (.tup [encN zN, .int .i64 11]) := by
  refine wpE (F := ir18) (by kernel_rfl) (by kernel_rfl) ?_
  have h1 := c26 [a, f] (by simp; exact ⟨ua, uf⟩) (by simp)
  rw [h] at h1
  simp only [List.map_cons, List.map_nil, encM, mat] at h1
  unfold encM mat sws
  by_cases e1 : a.r = f.r
  · by_cases e2 : a.c = f.c
    · have e3 : a.r < a.c := by
        have : ¬ a.c ≤ a.r := fun e => ho ⟨e1, e2, e⟩
        omega
      rw [e1, e2] at h1 e3
      rw [e1, e2]
      simp [-List.map_map, ir18, h1, e3, encN, enc, zN]
    · rw [e1] at h1
      rw [e1]
      simp [-List.map_map, ir18, h1, e2, encN, enc, zN]
  · simp [-List.map_map, ir18, h1, e1, encN, enc, zN]
theorem c22b (m n : Nat) (a f : List Int) (s : List Int) (e : Int) (hnm : n ≤ m) (ua : u64s a) (uf : u64s f) (h : firstF [⟨m, n, a⟩, ⟨m, n, f⟩] = 0) (he : e ≠ 0)
    (hA : D E 45 [mat m n a, sws s] = some (.tup [.agg [.int .i64 0, .int .i64 0, .lst []], .int .i64 e])) : D E 18 [mat m n a, mat m n f, sws s] = some (.tup [encN zN, .int .i64 e]) := by
  refine wpE (F := ir18) (by kernel_rfl) (by kernel_rfl) ?_
  have h1 := c26 [⟨m, n, a⟩, ⟨m, n, f⟩] (by simp; exact ⟨ua, uf⟩) (by simp)
  rw [h] at h1
  have e3 : ¬ (m : Int) < (n : Int) := by omega
  have e4 : ¬ m < n := by omega
  simp only [List.map_cons, List.map_nil, encM, mat, sws] at h1 hA
  unfold mat sws
  simp [-List.map_map, ir18, h1, e3, e4, hA, he, encN, enc, zN]
noncomputable def luP (m n : Nat) (f : List Int) : List Num := prodN (fun i j => dotN (gat m n ((loL m n f).map ofW) i) (fun k => gat n n ((upL n f).map ofW) k j) n) n m
theorem GN_luP (m n : Nat) (f : List Int) : ∀ x ∈ luP m n f, GN x := GN_prod2 (fun i j => GN_dot (fun k => GN_gat (GN_ofs _) _ _) (fun k => GN_gat (GN_ofs _) _ _) _) _ _
theorem c22t (m n : Nat) (a f p : List Int) (s : List Int) (n0 : 1 ≤ n) (hnm : n ≤ m) (m1 : m ≤ 64) (ua : u64s a) (uf : u64s f) (h : firstF [⟨m, n, a⟩, ⟨m, n, f⟩] = 0) (hp : p.length = m * n) (hf : f.length = m * n)
    (hA : D E 45 [mat m n a, sws s] = some (.tup [mat m n p, .int .i64 0])) :
    D E 18 [mat m n a, mat m n f, sws s] = some (.tup [encN ((List.zipWith subN (p.map ofW) (luP m n f)).foldl mostP zN), .int .i64 0]) := by
  refine wpE (F := ir18) (by kernel_rfl) (by kernel_rfl) ?_
  have h1 := c26 [⟨m, n, a⟩, ⟨m, n, f⟩] (by simp; exact ⟨ua, uf⟩) (by simp)
  rw [h] at h1
  have e3 : ¬ (m : Int) < (n : Int) := by omega
  have e4 : ¬ m < n := by omega
  have hb : m * n ≤ 64 * 64 := Nat.mul_le_mul m1 (by omega)
  have hb2 : n * n ≤ 64 * 64 := Nat.mul_le_mul (by omega) (by omega)
  have h2 := c27 m n p (by omega)
  have h3 := c25 m n f n0 hnm m1 hf
  have l1 := loL_len m n f
  have l2 := upL_len n f
  have h4 := c27 m n (loL m n f) (by omega)
  have h8 := c27 n n (upL n f) (by omega)
  have h5 := c30 m n n n ((loL m n f).map ofW) ((upL n f).map ofW) (GN_ofs _) (GN_ofs _) n0 m1 (by omega) (by omega) (by omega) (by rw [List.length_map]; exact l1) (by rw [List.length_map]; exact l2)
  have hP : (p.map ofW).length = (luP m n f).length := by rw [List.length_map, hp]; exact (prodN_len ..).symm
  have h6 := c29 m n m n (p.map ofW) (luP m n f) (GN_ofs _) (GN_luP m n f) (by rw [List.length_map]; omega) hP
  have h7 := c28 m n (List.zipWith subN (p.map ofW) (luP m n f)) (GN_zip (GN_ofs _) (GN_luP m n f)) (by rw [List.length_zipWith, List.length_map]; omega)
  change D E 34 [_, _] = some (grd m n (luP m n f)) at h5
  generalize List.zipWith subN (p.map ofW) (luP m n f) = Z at h6 h7 ⊢
  generalize Z.foldl mostP zN = y at h7 ⊢
  generalize luP m n f = C at h5 h6
  generalize loL m n f = L1 at h3 h4 h5
  generalize upL n f = L2 at h3 h8 h5
  simp only [List.map_cons, List.map_nil, encM, mat, grd, encN, enc, sws] at h1 h2 h3 h4 h5 h6 h7 h8 hA
  unfold mat sws
  simp [-List.map_map, ir18, h1, h2, h3, h4, h5, h6, h7, h8, hA, e3, e4, encN, enc]
end Go.Proofs.YtmbdbkcifmkpbaaGreatDoor.Den
end
section
set_option linter.unusedVariables false
set_option linter.unusedSimpArgs false
namespace Go.Proofs.YtmbdbkcifmkpbaaGreatDoor.Den
open Go
open Go.Proofs.YtmbdbkcifmkpbaaGreatDoor.OwnA (u64s finF readyF apN apN_len fits)
set_option maxRecDepth 10000
set_option maxHeartbeats 4000000
theorem c24 (m n : Nat) (a s : List Int) : D E 45 [mat m n a, sws s] = some (if readyF m n a.length s = 0 then .tup [mat m n (apN n a s s.length), .int .i64 0] else .tup [.agg [.int .i64 0, .int .i64 0, .lst []], .int .i64 (readyF m n a.length s)]) := by
  refine prE (p := p24) (by kernel_rfl) ?_
  unfold mat sws p24
  simp only [asUs_map, asIs_map, Option.bind_some, Int.toNat_natCast]
  split <;> rfl
theorem ready4 {m n k : Nat} {s : List Int} (h : fits m n k = true) (he : readyF m n k s ≠ 0) : readyF m n k s = 4 := by
  unfold readyF at he ⊢
  rw [h] at he ⊢
  simp only [if_true] at he ⊢
  split
  · rfl
  · rename_i hh
    rw [if_neg hh] at he
    exact absurd rfl he
end Go.Proofs.YtmbdbkcifmkpbaaGreatDoor.Den
end
section
set_option linter.unusedVariables false
set_option linter.unusedSimpArgs false
namespace Go.Proofs.YtmbdbkcifmkpbaaGreatDoor.Den
open Go
open Go.Proofs.YtmbdbkcifmkpbaaGreatDoor.OwnA (u64s finF)
set_option maxRecDepth 10000
set_option maxHeartbeats 4000000
attribute [local simp] Ok_true Br_true Br_false rtV exec_none exec_some opV dstB dstW upd_nil upd_cons upd1_at args0_zero args0_succ args0_nil ev cellsV isDead notSelf allCell cellB shrL shr ownsL owns ownE elems frz noLst noLstL outV_ret outV_norm retV resL resV tupV nmL nm boolV isBoolV isSkV binV unV fillV chunk sizesB sizeV List.mapIdx_cons List.mapIdx_nil List.mapIdx List.mapIdx.go List.range List.range.loop List.map_cons List.map_nil Option.isSome_some Option.isSome_none Option.getD_some Option.map_some Option.bind_some Option.map_none Option.bind_none List.append_nil List.nil_append List.cons_append List.isEmpty_nil List.isEmpty_cons Bool.and_true Bool.true_and Bool.and_false Bool.false_and Bool.or_true Bool.or_false Bool.true_or Bool.false_or Bool.not_true Bool.not_false List.length_cons List.length_nil List.take List.drop List.getD_cons_zero List.getD_cons_succ List.getElem?_cons_zero List.getElem?_cons_succ List.replicate List.flatten Wp_skip Wp_exit Wp_ret Wp_kil Wp_reg Wp_dfr Wi_nil Wi_cons Wp_seq Wp_cond Wp_block seqQ_norm seqQ_exit seqQ_ret blkQ_norm blkQ_exit blkQ_ret nrQ_norm nrQ_exit nrQ_ret lpQ_norm lpQ_exit lpQ_ret outQ_norm outQ_ret rgQ_at kilR kil1 kil kilL sets List.set_cons_zero List.set_cons_succ kilR0 frzd isFz ren renL frV frQ_norm frQ_ret retFr shrF shrFL arrV1
attribute [local simp] wrap_id
theorem c8e (a b c : Mt) (ua : u64s a.l) (ub : u64s b.l) (uc : u64s c.l) (h : firstF [a, b, c] ≠ 0) : D E 11 [encM a, encM b, encM c] = some (.tup [encN zN, .int .i64 (firstF [a, b, c])]) := by
  refine wpE (F := ir11) (by kernel_rfl) (by kernel_rfl) ?_
  have h1 := c26 [a, b, c] (by simp; exact ⟨ua, ub, uc⟩) (by simp)
  generalize firstF [a, b, c] = e at h h1 ⊢
  simp only [List.map_cons, List.map_nil, encM, mat] at h1
  unfold encM mat
  simp [-List.map_map, ir11, h1, h, encN, enc, zN]
end Go.Proofs.YtmbdbkcifmkpbaaGreatDoor.Den
end
section
set_option linter.unusedVariables false
set_option linter.unusedSimpArgs false
namespace Go.Proofs.YtmbdbkcifmkpbaaGreatDoor.Den
open Go
open Go.Proofs.YtmbdbkcifmkpbaaGreatDoor.OwnA (u64s finF)
set_option maxRecDepth 10000
set_option maxHeartbeats 4000000
attribute [local simp] Ok_true Br_true Br_false rtV exec_none exec_some opV dstB dstW upd_nil upd_cons upd1_at args0_zero args0_succ args0_nil ev cellsV isDead notSelf allCell cellB shrL shr ownsL owns ownE elems frz noLst noLstL outV_ret outV_norm retV resL resV tupV nmL nm boolV isBoolV isSkV binV unV fillV chunk sizesB sizeV List.mapIdx_cons List.mapIdx_nil List.mapIdx List.mapIdx.go List.range List.range.loop List.map_cons List.map_nil Option.isSome_some Option.isSome_none Option.getD_some Option.map_some Option.bind_some Option.map_none Option.bind_none List.append_nil List.nil_append List.cons_append List.isEmpty_nil List.isEmpty_cons Bool.and_true Bool.true_and Bool.and_false Bool.false_and Bool.or_true Bool.or_false Bool.true_or Bool.false_or Bool.not_true Bool.not_false List.length_cons List.length_nil List.take List.drop List.getD_cons_zero List.getD_cons_succ List.getElem?_cons_zero List.getElem?_cons_succ List.replicate List.flatten Wp_skip Wp_exit Wp_ret Wp_kil Wp_reg Wp_dfr Wi_nil Wi_cons Wp_seq Wp_cond Wp_block seqQ_norm seqQ_exit seqQ_ret blkQ_norm blkQ_exit blkQ_ret nrQ_norm nrQ_exit nrQ_ret lpQ_norm lpQ_exit lpQ_ret outQ_norm outQ_ret rgQ_at kilR kil1 kil kilL sets List.set_cons_zero List.set_cons_succ kilR0 frzd isFz ren renL frV frQ_norm frQ_ret retFr shrF shrFL arrV1
attribute [local simp] wrap_id
theorem first3 {a b c : Mt} (h : firstF [a, b, c] = 0) : finM a = 0 ∧ finM b = 0 ∧ finM c = 0 := by
  by_cases h1 : finM a = 0
  · by_cases h2 : finM b = 0
    · by_cases h3 : finM c = 0
      · exact ⟨h1, h2, h3⟩
      · simp [firstF, h1, h2, h3] at h
    · simp [firstF, h1, h2] at h
  · simp [firstF, h1] at h
theorem c8t (a b c : Mt) (ua : u64s a.l) (ub : u64s b.l) (uc : u64s c.l) (h : firstF [a, b, c] = 0) (e1 : a.c = b.r) (e2 : c.r = a.r) (e3 : c.c = b.c) (gP : ∀ x ∈ pN a b, GN x) (hP : (c.l.map ofW).length = (pN a b).length) :
    D E 11 [encM a, encM b, encM c] = some (.tup [encN ((List.zipWith subN (c.l.map ofW) (pN a b)).foldl mostP zN), .int .i64 0]) := by
  refine wpE (F := ir11) (by kernel_rfl) (by kernel_rfl) ?_
  have h1 := c26 [a, b, c] (by simp; exact ⟨ua, ub, uc⟩) (by simp)
  obtain ⟨ha, hb, hc⟩ := first3 h
  rw [h] at h1
  have hl : ∀ m : Mt, finM m = 0 → m.l.length ≤ 4096 := fun m hm => by
    have := fin_fits hm
    have := Nat.mul_le_mul (show m.r.toNat ≤ 64 by omega) (show m.c.toNat ≤ 64 by omega)
    omega
  have h2 := c27 a.r a.c a.l (by have := hl a ha; omega)
  have h3 := c27 b.r b.c b.l (by have := hl b hb; omega)
  have h5 := c27 c.r c.c c.l (by have := hl c hc; omega)
  have h4 := p30 ha hb
  have hcl : (c.l.map ofW).length ≤ 100000 := by rw [List.length_map]; have := hl c hc; omega
  have gZ : ∀ x ∈ List.zipWith subN (c.l.map ofW) (pN a b), GN x := by
    intro x hx
    rw [List.mem_iff_getElem] at hx
    obtain ⟨i, hi, rfl⟩ := hx
    rw [List.getElem_zipWith]
    exact GN_sub (GN_ofs _ _ (List.getElem_mem _)) (gP _ (List.getElem_mem _))
  have h6 := c29 c.r c.c a.r b.c (c.l.map ofW) (pN a b) (GN_ofs _) gP hcl hP
  have h7 := c28 c.r c.c (List.zipWith subN (c.l.map ofW) (pN a b)) gZ (by rw [List.length_zipWith]; omega)
  generalize List.zipWith subN (c.l.map ofW) (pN a b) = Z at h6 h7 ⊢
  generalize Z.foldl mostP zN = y at h7 ⊢
  simp only [List.map_cons, List.map_nil, encM, mat, grd, encN, enc] at h1 h2 h3 h4 h5 h6 h7
  rw [e1, e2, e3] at h1
  rw [e1] at h2 h4
  rw [e2, e3] at h5 h6 h7
  unfold encM mat
  rw [e1, e2, e3]
  simp [-List.map_map, ir11, h1, h2, h3, h4, h5, h6, h7, encN, enc]
end Go.Proofs.YtmbdbkcifmkpbaaGreatDoor.Den
end
section
set_option linter.unusedVariables false
set_option linter.unusedSimpArgs false
namespace Go.Proofs.YtmbdbkcifmkpbaaGreatDoor.Den
open Go
open Go.Proofs.YtmbdbkcifmkpbaaGreatDoor.OwnA (u64s finF)
set_option maxRecDepth 10000
set_option maxHeartbeats 4000000
attribute [local simp] Ok_true Br_true Br_false rtV exec_none exec_some opV dstB dstW upd_nil upd_cons upd1_at args0_zero args0_succ args0_nil ev cellsV isDead notSelf allCell cellB shrL shr ownsL owns ownE elems frz noLst noLstL outV_ret outV_norm retV resL resV tupV nmL nm boolV isBoolV isSkV binV unV fillV chunk sizesB sizeV List.mapIdx_cons List.mapIdx_nil List.mapIdx List.mapIdx.go List.range List.range.loop List.map_cons List.map_nil Option.isSome_some Option.isSome_none Option.getD_some Option.map_some Option.bind_some Option.map_none Option.bind_none List.append_nil List.nil_append List.cons_append List.isEmpty_nil List.isEmpty_cons Bool.and_true Bool.true_and Bool.and_false Bool.false_and Bool.or_true Bool.or_false Bool.true_or Bool.false_or Bool.not_true Bool.not_false List.length_cons List.length_nil List.take List.drop List.getD_cons_zero List.getD_cons_succ List.getElem?_cons_zero List.getElem?_cons_succ List.replicate List.flatten Wp_skip Wp_exit Wp_ret Wp_kil Wp_reg Wp_dfr Wi_nil Wi_cons Wp_seq Wp_cond Wp_block seqQ_norm seqQ_exit seqQ_ret blkQ_norm blkQ_exit blkQ_ret nrQ_norm nrQ_exit nrQ_ret lpQ_norm lpQ_exit lpQ_ret outQ_norm outQ_ret rgQ_at kilR kil1 kil kilL sets List.set_cons_zero List.set_cons_succ kilR0 frzd isFz ren renL frV frQ_norm frQ_ret retFr shrF shrFL arrV1
attribute [local simp] wrap_id
theorem c8o (a b c : Mt) (ua : u64s a.l) (ub : u64s b.l) (uc : u64s c.l) (h : firstF [a, b, c] = 0) (ho : ¬ (a.c = b.r ∧ c.r = a.r ∧ c.c = b.c)) :
    D E 11 [encM a, encM b, encM c] = some (.tup [encN zN, .int .i64 11]) := by
  refine wpE (F := ir11) (by kernel_rfl) (by kernel_rfl) ?_
  have h1 := c26 [a, b, c] (by simp; exact ⟨ua, ub, uc⟩) (by simp)
  rw [h] at h1
  simp only [List.map_cons, List.map_nil, encM, mat] at h1
  unfold encM mat
  by_cases e1 : a.c = b.r
  · by_cases e2 : c.r = a.r
    · have e3 : c.c ≠ b.c := fun e => ho ⟨e1, e2, e⟩
      rw [e1, e2] at h1
      rw [e1, e2]
      simp [-List.map_map, ir11, h1, e3, encN, enc, zN]
    · rw [e1] at h1
      rw [e1]
      simp [-List.map_map, ir11, h1, e2, encN, enc, zN]
  · simp [-List.map_map, ir11, h1, e1, encN, enc, zN]
end Go.Proofs.YtmbdbkcifmkpbaaGreatDoor.Den
end
