/- Parts of the proof, joined: Grids: the product. Grids: the law's. Grids: the law's product. Finite, same, is. The program's answers. The program's answers: Times, Product. -/
import Derived.Test.YtejmahnbecglfaaDoorCLA
section
set_option linter.unusedVariables false
set_option linter.unusedSimpArgs false
namespace Go.Proofs.YtejmahnbecglfaaDoor.Den
open Go
set_option maxRecDepth 10000
set_option maxHeartbeats 4000000
attribute [local simp] Ok_true Br_true Br_false rtV exec_none exec_some opV dstB dstW upd_nil upd_cons upd1_at args0_zero args0_succ args0_nil ev cellsV isDead notSelf allCell cellB shrL shr ownsL owns ownE elems frz noLst noLstL outV_ret outV_norm retV resL resV tupV nmL nm boolV isBoolV isSkV binV unV fillV chunk sizesB sizeV List.mapIdx_cons List.mapIdx_nil List.mapIdx List.mapIdx.go List.range List.range.loop List.map_cons List.map_nil Option.isSome_some Option.isSome_none Option.getD_some Option.map_some Option.bind_some Option.map_none Option.bind_none List.append_nil List.nil_append List.cons_append List.isEmpty_nil List.isEmpty_cons Bool.and_true Bool.true_and Bool.and_false Bool.false_and Bool.or_true Bool.or_false Bool.true_or Bool.false_or Bool.not_true Bool.not_false List.length_cons List.length_nil List.take List.drop List.getD_cons_zero List.getD_cons_succ List.getElem?_cons_zero List.getElem?_cons_succ List.replicate List.flatten Wp_skip Wp_exit Wp_ret Wp_kil Wp_reg Wi_nil Wi_cons Wp_seq Wp_cond Wp_block seqQ_norm seqQ_exit seqQ_ret blkQ_norm blkQ_exit blkQ_ret nrQ_norm nrQ_exit nrQ_ret lpQ_norm lpQ_exit lpQ_ret outQ_norm outQ_ret rgQ_at kilR kil1 kil kilL sets List.set_cons_zero List.set_cons_succ kilR0 frzd isFz ren renL frV frQ_norm frQ_ret retFr shrF shrFL arrV1
attribute [local simp] wrap_id
theorem kil_ownV (vs : List Nat) (n : Nat) : kil vs [] (ownV n) = ownV n := by unfold ownV; split <;> simp
theorem kil_arrV (vs ks : List Nat) (n sz e : Nat) (l : List V) : kil vs ks (arrV n sz e l) = arrV n sz e l := by unfold arrV; split <;> simp
theorem kil_lv (vs ks : List Nat) (q : Bool) (l : List Int) : kil vs ks (lv q l) = lv q l := by unfold lv; split <;> simp
attribute [local simp] kil_ownV kil_arrV kil_lv
def dotN (g h : Nat → Num) : Nat → Num
  | 0 => zN
  | k + 1 => addN (dotN g h k) (mulN (g k) (h k))
theorem GN_dot {g h : Nat → Num} (hg : ∀ k, GN (g k)) (hh : ∀ k, GN (h k)) : ∀ k, GN (dotN g h k)
  | 0 => GN0
  | k + 1 => GN_add (GN_dot hg hh k) (GN_mul (hg k) (hh k))
theorem GN_gat {r c : Int} {M : List Num} (hM : ∀ a ∈ M, GN a) (i j : Nat) : GN (gat r c M i j) := by
  unfold gat
  split
  · exact GN0
  · rw [List.getD_eq_getElem?_getD]
    cases h : M[i * c.toNat + j]? with
    | none => exact GN0
    | some a => exact hM a (List.mem_of_getElem? h)
def rowN (f : Nat → Num) : Nat → List Num
  | 0 => []
  | m + 1 => rowN f m ++ [f m]
def prodN (f : Nat → Nat → Num) (m : Nat) : Nat → List Num
  | 0 => []
  | n + 1 => prodN f m n ++ rowN (f n) m
theorem rowN_len (f : Nat → Num) : ∀ m, (rowN f m).length = m
  | 0 => rfl
  | m + 1 => by rw [rowN, List.length_append, rowN_len f m]; rfl
theorem prodN_len (f : Nat → Nat → Num) (m : Nat) : ∀ n, (prodN f m n).length = n * m
  | 0 => by simp [prodN]
  | n + 1 => by rw [prodN, List.length_append, prodN_len f m n, rowN_len, Nat.succ_mul]
/-- the numbers that are done -/
def accN (f : Nat → Nat → Num) (m n j : Nat) : List Num := prodN f m n ++ rowN (f n) j
theorem accN_zero (f : Nat → Nat → Num) (m n : Nat) : accN f m n 0 = prodN f m n := by simp [accN, rowN]
theorem accN_full (f : Nat → Nat → Num) (m n : Nat) : accN f m n m = prodN f m (n + 1) := rfl
theorem accN_succ (f : Nat → Nat → Num) (m n j : Nat) : accN f m n (j + 1) = accN f m n j ++ [f n j] := by rw [accN, rowN, ← List.append_assoc]; rfl
theorem accN_len (f : Nat → Nat → Num) (m n j : Nat) : (accN f m n j).length = n * m + j := by rw [accN, List.length_append, prodN_len, rowN_len]
theorem idx_lt {i j n m : Nat} (hi : i < n) (hj : j < m) : i * m + j < n * m := by
  have : (i + 1) * m ≤ n * m := Nat.mul_le_mul_right m hi
  rw [Nat.succ_mul] at this
  omega
theorem c30 (r c r2 c2 : Nat) (M H : List Num) (gM : ∀ a ∈ M, GN a) (gH : ∀ a ∈ H, GN a) (hc1 : 1 ≤ c) (hr : r ≤ 64) (hc : c ≤ 64) (hr2 : r2 ≤ 64) (hc2 : c2 ≤ 64) (hM : M.length = r * c) (hH : H.length = r2 * c2) :
    D E 30 [grd r c M, grd r2 c2 H] = some (grd r c2 (prodN (fun i j => dotN (gat r c M i) (fun k => gat r2 c2 H k j) c) c2 r)) := by
  obtain ⟨f, hf⟩ : ∃ f : Nat → Nat → Num, f = fun i j => dotN (gat r c M i) (fun k => gat r2 c2 H k j) c := ⟨_, rfl⟩
  rw [← hf]
  refine wpE (F := ir30) (by kernel_rfl) (by kernel_rfl) ?_
  unfold grd
  simp [ir30]
  refine Wp_loopS _ _ (fun i : Nat => [(17, .int .i64 i), (63, ownV (prodN f c2 i).length), (67, arrV (prodN f c2 i).length 3 27 ((prodN f c2 i).map encN))]) (fun i => i ≤ r) (fun i => r - i) 0 (by omega) (by simp [ownV, arrV, prodN]) ?_
  intro i hi0
  by_cases hi : i < r
  · have hn : (i : Int) < (r : Int) := by omega
    have hw : IntKind.i64.wrap ((i : Int) + 1) = (i : Int) + 1 := wrap_id (by omega) (by omega)
    simp [hn]
    refine Wp_loopS _ _ (fun j : Nat => [(22, .int .i64 j), (63, ownV (accN f c2 i j).length), (67, arrV (accN f c2 i j).length 3 27 ((accN f c2 i j).map encN))]) (fun j => j ≤ c2) (fun j => c2 - j) 0 (by omega) (by simp [accN_zero]) ?_
    intro j hj0
    by_cases hj : j < c2
    · have hjn : (j : Int) < (c2 : Int) := by omega
      have hjw : IntKind.i64.wrap ((j : Int) + 1) = (j : Int) + 1 := wrap_id (by omega) (by omega)
      simp [hjn]
      refine Wp_loopS _ _ (fun s : Nat × Bool => [(28, .int .i64 s.1), (64, .bool (dotN (gat r c M i) (fun k => gat r2 c2 H k j) s.1).n), (65, lv s.2 (dotN (gat r c M i) (fun k => gat r2 c2 H k j) s.1).l), (66, .int .i64 (dotN (gat r c M i) (fun k => gat r2 c2 H k j) s.1).x)]) (fun s => s.1 ≤ c ∧ (s.2 = true ↔ s.1 = 0)) (fun s => c - s.1) (0, true) ⟨by simp, by simp⟩ (by simp [lv, dotN, zN]) ?_
      rintro ⟨k, q⟩ ⟨hk0, hq⟩
      simp only at hk0 hq
      by_cases hk : k < c
      · have hkn : (k : Int) < (c : Int) := by omega
        have hkw : IntKind.i64.wrap ((k : Int) + 1) = (k : Int) + 1 := wrap_id (by omega) (by omega)
        have a1 := c51 r c M i k (by omega) (by omega) (by omega) (by omega) (fun _ => by rw [hM, Int.toNat_natCast]; exact idx_lt hi hk)
        have a2 := c51 r2 c2 H k j (by omega) (by omega) (by omega) (by omega) (fun h => by rw [hH, Int.toNat_natCast]; exact idx_lt (by omega) hj)
        have a3 := c50 (GN_gat gM (r := r) (c := c) i k) (GN_gat gH (r := r2) (c := c2) k j)
        have a4 := c49 (GN_dot (fun k => GN_gat gM (r := r) (c := c) i k) (fun k => GN_gat gH (r := r2) (c := c2) k j) k) (GN_mul (GN_gat gM (r := r) (c := c) i k) (GN_gat gH (r := r2) (c := c2) k j))
        have hs : dotN (gat r c M i) (fun k => gat r2 c2 H k j) (k + 1) = addN (dotN (gat r c M i) (fun k => gat r2 c2 H k j) k) (mulN (gat r c M i k) (gat r2 c2 H k j)) := rfl
        cases q with
        | true =>
          have hk1 : k = 0 := hq.1 rfl
          subst hk1
          simp only [grd, encN, enc, dotN, zN] at a1 a2 a3 a4 hs
          simp at a1 a2 a4
          simp [hkn, hk, lv, a1, a2, a3, a4, dotN, zN]
          refine nxt_i _ ((1 : Nat), false) ⟨hk, by simp⟩ (by show c - 1 < c - 0; omega) ?_
          simp [lv, dotN, zN]
        | false =>
          simp only [grd, encN, enc] at a1 a2 a3 a4
          simp [hkn, lv, a1, a2, a3, a4, hkw]
          refine nxt_i _ (k + 1, false) ⟨hk, by simp⟩ (by simp; omega) ?_
          simp [lv, hs]
      · have hkn : ¬ (k : Int) < (c : Int) := by omega
        have hke : k = c := by omega
        have hqf : q = false := by
          cases q with
          | true => have := hq.1 rfl; omega
          | false => rfl
        rw [hke] at hkn
        rw [hke, hqf]
        have hfe : f i j = dotN (gat r c M i) (fun k => gat r2 c2 H k j) c := by rw [hf]
        rw [← hfe]
        have hln := accN_len f c2 i j
        have hle : i * c2 ≤ 64 * 64 := Nat.mul_le_mul (by omega) hc2
        obtain ⟨A, hA⟩ : ∃ A, A = accN f c2 i j := ⟨_, rfl⟩
        rw [← hA] at hln ⊢
        have hb1 : (A.length + 1) * 40 ≤ 140737488355328 := by omega
        have hb2 : A.length + 1 ≤ big := by unfold big; omega
        have hs : accN f c2 i (j + 1) = A ++ [f i j] := by rw [hA]; exact accN_succ f c2 i j
        by_cases h0 : A.length = 0
        · have hA0 : A = [] := List.eq_nil_of_length_eq_zero h0
          have hn1 : 1 ≤ big := by unfold big; omega
          rw [hA0] at hs ⊢
          simp [hkn, lv, ownV, arrV, hn1, hjw]
          refine nxt_i _ (j + 1) hj (by omega) ?_
          rw [hs]
          simp [ownV, arrV, encN, enc]
        · simp [hkn, lv, ownV, arrV, h0, hb1, hb2, hjw]
          refine nxt_i _ (j + 1) hj (by omega) ?_
          rw [hs]
          simp [ownV, arrV, encN, enc]
    · have hjn : ¬ (j : Int) < (c2 : Int) := by omega
      have hje : j = c2 := by omega
      rw [hje] at hjn ⊢
      simp [hjn, hw]
      refine nxt_i _ (i + 1) hi (by omega) ?_
      rw [← accN_full]
      simp
  · have hn : ¬ (i : Int) < (r : Int) := by omega
    have hie : i = r := by omega
    rw [hie] at hn ⊢
    by_cases h0 : (prodN f c2 r).length = 0
    · have hA0 : prodN f c2 r = [] := List.eq_nil_of_length_eq_zero h0
      rw [hA0]
      simp [hn, ownV, arrV]
    · simp [hn, ownV, arrV, h0]
end Go.Proofs.YtejmahnbecglfaaDoor.Den
end
section
set_option linter.unusedVariables false
set_option linter.unusedSimpArgs false
namespace Go.Proofs.YtejmahnbecglfaaDoor.Den
open Go
set_option maxRecDepth 10000
set_option maxHeartbeats 4000000
attribute [local simp] Ok_true Br_true Br_false rtV exec_none exec_some opV dstB dstW upd_nil upd_cons upd1_at args0_zero args0_succ args0_nil ev cellsV isDead notSelf allCell cellB shrL shr ownsL owns ownE elems frz noLst noLstL outV_ret outV_norm retV resL resV tupV nmL nm boolV isBoolV isSkV binV unV fillV chunk sizesB sizeV List.mapIdx_cons List.mapIdx_nil List.mapIdx List.mapIdx.go List.range List.range.loop List.map_cons List.map_nil Option.isSome_some Option.isSome_none Option.getD_some Option.map_some Option.bind_some Option.map_none Option.bind_none List.append_nil List.nil_append List.cons_append List.isEmpty_nil List.isEmpty_cons Bool.and_true Bool.true_and Bool.and_false Bool.false_and Bool.or_true Bool.or_false Bool.true_or Bool.false_or Bool.not_true Bool.not_false List.length_cons List.length_nil List.take List.drop List.getD_cons_zero List.getD_cons_succ List.getElem?_cons_zero List.getElem?_cons_succ List.replicate List.flatten Wp_skip Wp_exit Wp_ret Wp_kil Wp_reg Wi_nil Wi_cons Wp_seq Wp_cond Wp_block seqQ_norm seqQ_exit seqQ_ret blkQ_norm blkQ_exit blkQ_ret nrQ_norm nrQ_exit nrQ_ret lpQ_norm lpQ_exit lpQ_ret outQ_norm outQ_ret rgQ_at kilR kil1 kil kilL sets List.set_cons_zero List.set_cons_succ kilR0 frzd isFz ren renL frV frQ_norm frQ_ret retFr shrF shrFL arrV1
attribute [local simp] wrap_id kil_ownV kil_arrV kil_lv
theorem c14 (r c : Int) (l : List Int) (hl : l.length ≤ 100000) : D E 14 [mat r c l] = some (grd r c (l.map ofW)) := by
  refine wpE (F := ir14) (by kernel_rfl) (by kernel_rfl) ?_
  unfold mat grd
  simp [ir14]
  refine Wp_loopS _ _ (fun A : List Num => [(4, .int .i64 A.length), (37, ownV A.length), (38, arrV A.length 3 27 (A.map encN))]) (fun A => pre A (l.map ofW)) (fun A => l.length - A.length) [] (pre_nil _) (by simp [ownV, arrV]) ?_
  intro A hA
  by_cases hi : A.length < l.length
  · have hn : (A.length : Int) < (l.length : Int) := by omega
    have hw : IntKind.i64.wrap ((A.length : Int) + 1) = (A.length : Int) + 1 := wrap_id (by omega) (by omega)
    have hb1 : (A.length + 1) * 40 ≤ 140737488355328 := by omega
    have hb2 : A.length + 1 ≤ big := by unfold big; omega
    have hN : pre (A ++ [ofW (l[A.length]'hi)]) (l.map ofW) := by
      have := pre_next hA (by rw [List.length_map]; exact hi)
      rw [List.getElem_map] at this
      exact this
    have hd := c12 (l[A.length]'hi)
    by_cases h0 : A.length = 0
    · have hA0 : A = [] := List.eq_nil_of_length_eq_zero h0
      subst hA0
      have hi0 : 0 < l.length := hi
      have hn0 : (0 : Int) < (l.length : Int) := by omega
      have hd0 : D E 12 [.int .u64 (l[0]'hi0)] = some (encN (ofW (l[0]'hi0))) := hd
      have hn1 : 1 ≤ big := by unfold big; omega
      unfold encN enc at *
      simp [ownV, arrV, hn0, hd0, hi0, hn1]
      refine nxt_i _ [ofW (l[0]'hi0)] hN (by simp; omega) ?_
      simp [ownV, arrV]
    · unfold encN enc at *
      simp [ownV, arrV, hn, hd, hw, h0, hi, hb1, hb2]
      refine nxt_i _ (A ++ [ofW (l[A.length]'hi)]) hN (by simp; omega) ?_
      simp [ownV, arrV]
  · have hn : ¬ (A.length : Int) < (l.length : Int) := by omega
    have hM := pre_full hA (by rw [List.length_map]; exact hi)
    by_cases h0 : A.length = 0
    · have hA0 : A = [] := List.eq_nil_of_length_eq_zero h0
      subst hA0
      have hl0 : l = [] := by
        cases l with
        | nil => rfl
        | cons _ _ => simp at hM
      subst hl0
      unfold encN enc at *
      simp [ownV, arrV]
    · have hm2 : l.map (encN ∘ ofW) = A.map encN := by rw [hM, List.map_map]
      unfold encN enc at *
      simp [ownV, arrV, hn, h0]
      exact hm2.symm
theorem GN_mostL {a b : Num} (ha : GN a) (hb : GN b) : GN (mostL a b) := by
  unfold mostL
  split
  · exact GN_abs hb
  · exact ha
def farU (M H : List Num) : Nat → Num
  | 0 => zN
  | n + 1 => mostL (farU M H n) (subN (M.getD n zN) (H.getD n zN))
theorem GN_getD {M : List Num} (hM : ∀ a ∈ M, GN a) (n : Nat) : GN (M.getD n zN) := by
  rw [List.getD_eq_getElem?_getD]
  cases h : M[n]? with
  | none => exact GN0
  | some a => exact hM a (List.mem_of_getElem? h)
theorem GN_far {M H : List Num} (hM : ∀ a ∈ M, GN a) (hH : ∀ a ∈ H, GN a) : ∀ n, GN (farU M H n)
  | 0 => GN0
  | n + 1 => GN_mostL (GN_far hM hH n) (GN_sub (GN_getD hM n) (GN_getD hH n))
theorem c13 (r c r' c' : Int) (M H : List Num) (hM : ∀ a ∈ M, GN a) (hH : ∀ a ∈ H, GN a) (hl : M.length ≤ 100000) (hh : M.length = H.length) : D E 13 [grd r c M, grd r' c' H] = some (encN (farU M H M.length)) := by
  refine wpE (F := ir13) (by kernel_rfl) (by kernel_rfl) ?_
  unfold grd
  simp [ir13]
  refine Wp_loopS _ _ (fun s : Nat × Bool => [(6, .int .i64 s.1), (38, .bool (farU M H s.1).n), (39, lv s.2 (farU M H s.1).l), (40, .int .i64 (farU M H s.1).x)]) (fun s => s.1 ≤ M.length ∧ (s.2 = true ↔ s.1 = 0)) (fun s => M.length - s.1) (0, true) ⟨by simp, by simp⟩ (by simp [lv, farU, zN]) ?_
  rintro ⟨k, q⟩ ⟨hk0, hq⟩
  simp only at hk0 hq
  by_cases hk : k < M.length
  · have hk' : k < H.length := by omega
    have hkn : (k : Int) < (M.length : Int) := by omega
    have hkw : IntKind.i64.wrap ((k : Int) + 1) = (k : Int) + 1 := wrap_id (by omega) (by omega)
    have e1 : M.getD k zN = M[k]'hk := by rw [List.getD_eq_getElem?_getD, List.getElem?_eq_getElem hk]; rfl
    have e2 : H.getD k zN = H[k]'hk' := by rw [List.getD_eq_getElem?_getD, List.getElem?_eq_getElem hk']; rfl
    have a1 := c21 (hM _ (List.getElem_mem hk)) (hH _ (List.getElem_mem hk'))
    have a2 := c11 (GN_far hM hH k) (GN_sub (hM _ (List.getElem_mem hk)) (hH _ (List.getElem_mem hk')))
    have hs : farU M H (k + 1) = mostL (farU M H k) (subN (M[k]'hk) (H[k]'hk')) := by rw [← e1, ← e2]; rfl
    clear e1 e2
    cases q with
    | true =>
      have hk1 : k = 0 := hq.1 rfl
      subst hk1
      have f0 : farU M H 0 = zN := rfl
      rw [f0] at a2 hs
      simp only [encN, enc, zN] at a1 a2 hs
      simp at a2
      simp [hkn, hk, hk', lv, a1, a2, f0, zN, encN, enc]
      refine nxt_i _ ((1 : Nat), false) ⟨hk, by simp⟩ (by show M.length - 1 < M.length - 0; omega) ?_
      simp [lv, hs]
    | false =>
      simp only [encN, enc] at a1 a2
      simp [hkn, hk, hk', lv, a1, a2, hkw, encN, enc]
      refine nxt_i _ (k + 1, false) ⟨hk, by simp⟩ (by show M.length - (k + 1) < M.length - k; omega) ?_
      simp [lv, hs]
  · have hkn : ¬ (k : Int) < (M.length : Int) := by omega
    have hke : k = M.length := by omega
    cases q with
    | true =>
      have hk1 : k = 0 := hq.1 rfl
      have hM0 : M = [] := List.eq_nil_of_length_eq_zero (by omega)
      subst hM0
      subst hk1
      simp [lv, encN, enc, farU, zN]
    | false =>
      rw [← hke]
      simp [hkn, lv, encN, enc]
end Go.Proofs.YtejmahnbecglfaaDoor.Den
end
section
set_option linter.unusedVariables false
set_option linter.unusedSimpArgs false
namespace Go.Proofs.YtejmahnbecglfaaDoor.Den
open Go
set_option maxRecDepth 10000
set_option maxHeartbeats 4000000
attribute [local simp] Ok_true Br_true Br_false rtV exec_none exec_some opV dstB dstW upd_nil upd_cons upd1_at args0_zero args0_succ args0_nil ev cellsV isDead notSelf allCell cellB shrL shr ownsL owns ownE elems frz noLst noLstL outV_ret outV_norm retV resL resV tupV nmL nm boolV isBoolV isSkV binV unV fillV chunk sizesB sizeV List.mapIdx_cons List.mapIdx_nil List.mapIdx List.mapIdx.go List.range List.range.loop List.map_cons List.map_nil Option.isSome_some Option.isSome_none Option.getD_some Option.map_some Option.bind_some Option.map_none Option.bind_none List.append_nil List.nil_append List.cons_append List.isEmpty_nil List.isEmpty_cons Bool.and_true Bool.true_and Bool.and_false Bool.false_and Bool.or_true Bool.or_false Bool.true_or Bool.false_or Bool.not_true Bool.not_false List.length_cons List.length_nil List.take List.drop List.getD_cons_zero List.getD_cons_succ List.getElem?_cons_zero List.getElem?_cons_succ List.replicate List.flatten Wp_skip Wp_exit Wp_ret Wp_kil Wp_reg Wi_nil Wi_cons Wp_seq Wp_cond Wp_block seqQ_norm seqQ_exit seqQ_ret blkQ_norm blkQ_exit blkQ_ret nrQ_norm nrQ_exit nrQ_ret lpQ_norm lpQ_exit lpQ_ret outQ_norm outQ_ret rgQ_at kilR kil1 kil kilL sets List.set_cons_zero List.set_cons_succ kilR0 frzd isFz ren renL frV frQ_norm frQ_ret retFr shrF shrFL arrV1
attribute [local simp] wrap_id kil_ownV kil_arrV kil_lv
theorem gat_get {r c : Nat} {M : List Num} {i j : Nat} (hi : i < r) (h : i * c + j < M.length) : gat r c M i j = M[i * c + j]'h := by
  unfold gat
  rw [if_neg (by omega), Int.toNat_natCast, List.getD_eq_getElem?_getD, List.getElem?_eq_getElem h]
  rfl
theorem idx_w {i c j p : Nat} (hi : i ≤ 64) (hc : c ≤ 64) (hj : j ≤ 64) (hp : i * c + j = p) : IntKind.i64.wrap ((i : Int) * c) = ((i * c : Nat) : Int) ∧ IntKind.i64.wrap (((i * c : Nat) : Int) + j) = (p : Int) := by
  have hb : i * c ≤ 64 * 64 := Nat.mul_le_mul hi hc
  have hm : ((i : Int) * c) = ((i * c : Nat) : Int) := by rw [Int.natCast_mul]
  refine ⟨by rw [hm]; exact wrap_id (by omega) (by omega), ?_⟩
  rw [wrap_id (by omega) (by omega)]
  omega
theorem c15 (r c c2 : Nat) (M H : List Num) (gM : ∀ a ∈ M, GN a) (gH : ∀ a ∈ H, GN a) (hc1 : 1 ≤ c) (hr : r ≤ 64) (hc : c ≤ 64) (hc2 : c2 ≤ 64) (hM : M.length = r * c) (hH : H.length = c * c2) :
    D E 15 [grd r c M, grd c c2 H] = some (grd r c2 (prodN (fun i j => dotN (gat r c M i) (fun k => gat c c2 H k j) c) c2 r)) := by
  obtain ⟨f, hf⟩ : ∃ f : Nat → Nat → Num, f = fun i j => dotN (gat r c M i) (fun k => gat c c2 H k j) c := ⟨_, rfl⟩
  rw [← hf]
  refine wpE (F := ir15) (by kernel_rfl) (by kernel_rfl) ?_
  unfold grd
  simp [ir15]
  refine Wp_loopS _ _ (fun i : Nat => [(6, .int .i64 i), (81, ownV (prodN f c2 i).length), (85, arrV (prodN f c2 i).length 3 27 ((prodN f c2 i).map encN))]) (fun i => i ≤ r) (fun i => r - i) 0 (by omega) (by simp [ownV, arrV, prodN]) ?_
  intro i hi0
  by_cases hi : i < r
  · have hn : (i : Int) < (r : Int) := by omega
    have hw : IntKind.i64.wrap ((i : Int) + 1) = (i : Int) + 1 := wrap_id (by omega) (by omega)
    simp [hn]
    refine Wp_loopS _ _ (fun j : Nat => [(7, .int .i64 j), (81, ownV (accN f c2 i j).length), (85, arrV (accN f c2 i j).length 3 27 ((accN f c2 i j).map encN))]) (fun j => j ≤ c2) (fun j => c2 - j) 0 (by omega) (by simp [accN_zero]) ?_
    intro j hj0
    by_cases hj : j < c2
    · have hjn : (j : Int) < (c2 : Int) := by omega
      have hjw : IntKind.i64.wrap ((j : Int) + 1) = (j : Int) + 1 := wrap_id (by omega) (by omega)
      simp [hjn]
      refine Wp_loopS _ _ (fun s : Nat × Bool => [(9, .int .i64 s.1), (82, .bool (dotN (gat r c M i) (fun k => gat c c2 H k j) s.1).n), (83, lv s.2 (dotN (gat r c M i) (fun k => gat c c2 H k j) s.1).l), (84, .int .i64 (dotN (gat r c M i) (fun k => gat c c2 H k j) s.1).x)]) (fun s => s.1 ≤ c ∧ (s.2 = true ↔ s.1 = 0)) (fun s => c - s.1) (0, true) ⟨by simp, by simp⟩ (by simp [lv, dotN, zN]) ?_
      rintro ⟨k, q⟩ ⟨hk0, hq⟩
      simp only at hk0 hq
      by_cases hk : k < c
      · have hkn : (k : Int) < (c : Int) := by omega
        have hkw : IntKind.i64.wrap ((k : Int) + 1) = (k : Int) + 1 := wrap_id (by omega) (by omega)
        have l1 : i * c + k < M.length := by rw [hM]; exact idx_lt hi hk
        have l2 : k * c2 + j < H.length := by rw [hH]; exact idx_lt hk hj
        have e1 := gat_get hi l1
        have e2 := gat_get hk l2
        obtain ⟨p1, hp1⟩ : ∃ p, i * c + k = p := ⟨_, rfl⟩
        obtain ⟨p2, hp2⟩ : ∃ p, k * c2 + j = p := ⟨_, rfl⟩
        obtain ⟨w1, w2⟩ := idx_w (by omega) hc (by omega) hp1
        obtain ⟨w3, w4⟩ := idx_w (by omega) hc2 (by omega) hp2
        obtain ⟨q1, hq1⟩ : ∃ q : Int, ((i * c : Nat) : Int) = q := ⟨_, rfl⟩
        obtain ⟨q2, hq2⟩ : ∃ q : Int, ((k * c2 : Nat) : Int) = q := ⟨_, rfl⟩
        rw [hq1] at w1 w2
        rw [hq2] at w3 w4
        simp only [hp1] at l1 e1
        simp only [hp2] at l2 e2
        have a3 := c36 (GN_gat gM (r := r) (c := c) i k) (GN_gat gH (r := c) (c := c2) k j)
        have a4 := c35 (GN_dot (fun k => GN_gat gM (r := r) (c := c) i k) (fun k => GN_gat gH (r := c) (c := c2) k j) k) (GN_mul (GN_gat gM (r := r) (c := c) i k) (GN_gat gH (r := c) (c := c2) k j))
        have hs : dotN (gat r c M i) (fun k => gat c c2 H k j) (k + 1) = addN (dotN (gat r c M i) (fun k => gat c c2 H k j) k) (mulN (gat r c M i k) (gat c c2 H k j)) := rfl
        rw [e1, e2] at a3 a4 hs
        cases q with
        | true =>
          have hdl : (dotN (gat r c M i) (fun k => gat c c2 H k j) k).l = [] := by rw [hq.1 rfl]; rfl
          simp only [encN, enc] at a3 a4
          simp only [hdl, List.map_nil] at a4
          simp [hkn, lv, w1, w2, w3, w4, l1, l2, a3, a4, hkw, encN, enc]
          refine nxt_i _ (k + 1, false) ⟨hk, by simp⟩ (by show c - (k + 1) < c - k; omega) ?_
          simp [lv, hs]
        | false =>
          simp only [grd, encN, enc] at a3 a4
          simp [hkn, lv, w1, w2, w3, w4, l1, l2, a3, a4, hkw, encN, enc]
          refine nxt_i _ (k + 1, false) ⟨hk, by simp⟩ (by simp; omega) ?_
          simp [lv, hs]
      · have hkn : ¬ (k : Int) < (c : Int) := by omega
        have hke : k = c := by omega
        have hqf : q = false := by
          cases q with
          | true => have := hq.1 rfl; omega
          | false => rfl
        rw [hke] at hkn
        rw [hke, hqf]
        have hfe : f i j = dotN (gat r c M i) (fun k => gat c c2 H k j) c := by rw [hf]
        rw [← hfe]
        have hln := accN_len f c2 i j
        have hle : i * c2 ≤ 64 * 64 := Nat.mul_le_mul (by omega) hc2
        obtain ⟨A, hA⟩ : ∃ A, A = accN f c2 i j := ⟨_, rfl⟩
        rw [← hA] at hln ⊢
        have hb1 : (A.length + 1) * 40 ≤ 140737488355328 := by omega
        have hb2 : A.length + 1 ≤ big := by unfold big; omega
        have hs : accN f c2 i (j + 1) = A ++ [f i j] := by rw [hA]; exact accN_succ f c2 i j
        by_cases h0 : A.length = 0
        · have hA0 : A = [] := List.eq_nil_of_length_eq_zero h0
          have hn1 : 1 ≤ big := by unfold big; omega
          rw [hA0] at hs ⊢
          simp [hkn, lv, ownV, arrV, hn1, hjw]
          refine nxt_i _ (j + 1) hj (by omega) ?_
          rw [hs]
          simp [ownV, arrV, encN, enc]
        · simp [hkn, lv, ownV, arrV, h0, hb1, hb2, hjw]
          refine nxt_i _ (j + 1) hj (by omega) ?_
          rw [hs]
          simp [ownV, arrV, encN, enc]
    · have hjn : ¬ (j : Int) < (c2 : Int) := by omega
      have hje : j = c2 := by omega
      rw [hje] at hjn ⊢
      simp [hjn, hw]
      refine nxt_i _ (i + 1) hi (by omega) ?_
      rw [← accN_full]
      simp
  · have hn : ¬ (i : Int) < (r : Int) := by omega
    have hie : i = r := by omega
    rw [hie] at hn ⊢
    by_cases h0 : (prodN f c2 r).length = 0
    · have hA0 : prodN f c2 r = [] := List.eq_nil_of_length_eq_zero h0
      rw [hA0]
      simp [hn, ownV, arrV]
    · simp [hn, ownV, arrV, h0]
end Go.Proofs.YtejmahnbecglfaaDoor.Den
end
section
set_option linter.unusedVariables false
set_option linter.unusedSimpArgs false
namespace Go.Proofs.YtejmahnbecglfaaDoor.Den
open Go
open Go.Proofs.YtejmahnbecglfaaDoor.OwnA (u64s finF)
set_option maxRecDepth 10000
set_option maxHeartbeats 4000000
attribute [local simp] Ok_true Br_true Br_false rtV exec_none exec_some opV dstB dstW upd_nil upd_cons upd1_at args0_zero args0_succ args0_nil ev cellsV isDead notSelf allCell cellB shrL shr ownsL owns ownE elems frz noLst noLstL outV_ret outV_norm retV resL resV tupV nmL nm boolV isBoolV isSkV binV unV fillV chunk sizesB sizeV List.mapIdx_cons List.mapIdx_nil List.mapIdx List.mapIdx.go List.range List.range.loop List.map_cons List.map_nil Option.isSome_some Option.isSome_none Option.getD_some Option.map_some Option.bind_some Option.map_none Option.bind_none List.append_nil List.nil_append List.cons_append List.isEmpty_nil List.isEmpty_cons Bool.and_true Bool.true_and Bool.and_false Bool.false_and Bool.or_true Bool.or_false Bool.true_or Bool.false_or Bool.not_true Bool.not_false List.length_cons List.length_nil List.take List.drop List.getD_cons_zero List.getD_cons_succ List.getElem?_cons_zero List.getElem?_cons_succ List.replicate List.flatten Wp_skip Wp_exit Wp_ret Wp_kil Wp_reg Wi_nil Wi_cons Wp_seq Wp_cond Wp_block seqQ_norm seqQ_exit seqQ_ret blkQ_norm blkQ_exit blkQ_ret nrQ_norm nrQ_exit nrQ_ret lpQ_norm lpQ_exit lpQ_ret outQ_norm outQ_ret rgQ_at kilR kil1 kil kilL sets List.set_cons_zero List.set_cons_succ kilR0 frzd isFz ren renL frV frQ_norm frQ_ret retFr shrF shrFL arrV1
attribute [local simp] wrap_id
structure Mt where
  r : Int
  c : Int
  l : List Int
def encM (m : Mt) : V := mat m.r m.c m.l
def finM (m : Mt) : Int := finF m.r m.c m.l
theorem d31 (m : Mt) (h : u64s m.l) : D E 31 [encM m] = some (.int .i64 (finM m)) := by
  refine prE (p := p31) (by kernel_rfl) ?_
  have := PResid.okU_iff.2 h
  simp [p31, encM, mat, asUs_map, PResid.shape_Finite.f, this, finM]
def firstF : List Mt → Int
  | [] => 0
  | m :: l => if finM m = 0 then firstF l else finM m
theorem c37 (l : List Int) (hl : l.length ≤ 100000) : D E 37 [.lst (l.map (V.int .u64)), .lst (l.map (V.int .u64))] = some (.bool true) := by
  refine wpE (F := ir37) (by kernel_rfl) (by kernel_rfl) ?_
  simp [ir37]
  refine Wp_loopS _ _ (fun i : Nat => [(5, .int .i64 i)]) (fun i => i ≤ l.length) (fun i => l.length - i) 0 (by omega) (by simp) ?_
  intro i hi0
  by_cases hi : i < l.length
  · have hn : (i : Int) < (l.length : Int) := by omega
    have hw : IntKind.i64.wrap ((i : Int) + 1) = (i : Int) + 1 := wrap_id (by omega) (by omega)
    simp [hn, hi, hw]
    refine nxt_i _ (i + 1) hi (by omega) ?_
    simp
  · have hn : ¬ (i : Int) < (l.length : Int) := by omega
    simp [hn]
theorem c17 (a : Num) (ha : GN a) : D E 17 [encN a, encN a] = some (.bool true) := by
  refine wpE (F := ir17) (by kernel_rfl) (by kernel_rfl) ?_
  have h := c37 a.l ha.ok.1
  unfold encN enc
  simp [ir17, h]
theorem c26 (Ms : List Mt) (hM : ∀ m ∈ Ms, u64s m.l) (hl : Ms.length ≤ 100) : D E 26 [.lst (Ms.map encM)] = some (.int .i64 (firstF Ms)) := by
  refine wpE (F := ir26) (by kernel_rfl) (by kernel_rfl) ?_
  simp [ir26]
  refine Wp_loopS _ _ (fun i : Nat => [(8, .int .i64 i)]) (fun i => i ≤ Ms.length ∧ firstF Ms = firstF (Ms.drop i)) (fun i => Ms.length - i) 0 ⟨by omega, rfl⟩ (by simp) ?_
  rintro i ⟨hi0, hf⟩
  by_cases hi : i < Ms.length
  · have hn : (i : Int) < (Ms.length : Int) := by omega
    have hw : IntKind.i64.wrap ((i : Int) + 1) = (i : Int) + 1 := wrap_id (by omega) (by omega)
    have hd := d31 _ (hM _ (List.getElem_mem hi))
    rw [List.drop_eq_getElem_cons hi, firstF] at hf
    by_cases hz : finM (Ms[i]'hi) = 0
    · rw [if_pos hz] at hf
      simp only [encM, mat] at hd
      rw [hz] at hd
      simp [hn, hi, hw, hd, encM, mat]
      refine nxt_i _ (i + 1) ⟨hi, hf⟩ (by omega) ?_
      simp
    · rw [if_neg hz] at hf
      rw [hf]
      simp only [encM, mat] at hd
      simp [hn, hi, hw, hd, hz, encM, mat]
  · have hn : ¬ (i : Int) < (Ms.length : Int) := by omega
    rw [List.drop_of_length_le (by omega)] at hf
    rw [hf]
    simp [hn, firstF]
theorem c10 (Ms : List Mt) (hM : ∀ m ∈ Ms, u64s m.l) (hl : Ms.length ≤ 100) : D E 10 [.lst (Ms.map encM)] = some (.int .i64 (firstF Ms)) := by
  refine wpE (F := ir10) (by kernel_rfl) (by kernel_rfl) ?_
  simp [ir10]
  refine Wp_loopS _ _ (fun i : Nat => [(3, .int .i64 i)]) (fun i => i ≤ Ms.length ∧ firstF Ms = firstF (Ms.drop i)) (fun i => Ms.length - i) 0 ⟨by omega, rfl⟩ (by simp) ?_
  rintro i ⟨hi0, hf⟩
  by_cases hi : i < Ms.length
  · have hn : (i : Int) < (Ms.length : Int) := by omega
    have hw : IntKind.i64.wrap ((i : Int) + 1) = (i : Int) + 1 := wrap_id (by omega) (by omega)
    have hd := d31 _ (hM _ (List.getElem_mem hi))
    rw [List.drop_eq_getElem_cons hi, firstF] at hf
    by_cases hz : finM (Ms[i]'hi) = 0
    · rw [if_pos hz] at hf
      simp only [encM, mat] at hd
      rw [hz] at hd
      simp [hn, hi, hw, hd, encM, mat]
      refine nxt_i _ (i + 1) ⟨hi, hf⟩ (by omega) ?_
      simp
    · rw [if_neg hz] at hf
      rw [hf]
      simp only [encM, mat] at hd
      simp [hn, hi, hw, hd, hz, encM, mat]
  · have hn : ¬ (i : Int) < (Ms.length : Int) := by omega
    rw [List.drop_of_length_le (by omega)] at hf
    rw [hf]
    simp [hn, firstF]
end Go.Proofs.YtejmahnbecglfaaDoor.Den
end
section
set_option linter.unusedVariables false
set_option linter.unusedSimpArgs false
namespace Go.Proofs.YtejmahnbecglfaaDoor.Den
open Go
open Go.Proofs.YtejmahnbecglfaaDoor.OwnA (u64s finF)
set_option maxRecDepth 10000
set_option maxHeartbeats 4000000
attribute [local simp] Ok_true Br_true Br_false rtV exec_none exec_some opV dstB dstW upd_nil upd_cons upd1_at args0_zero args0_succ args0_nil ev cellsV isDead notSelf allCell cellB shrL shr ownsL owns ownE elems frz noLst noLstL outV_ret outV_norm retV resL resV tupV nmL nm boolV isBoolV isSkV binV unV fillV chunk sizesB sizeV List.mapIdx_cons List.mapIdx_nil List.mapIdx List.mapIdx.go List.range List.range.loop List.map_cons List.map_nil Option.isSome_some Option.isSome_none Option.getD_some Option.map_some Option.bind_some Option.map_none Option.bind_none List.append_nil List.nil_append List.cons_append List.isEmpty_nil List.isEmpty_cons Bool.and_true Bool.true_and Bool.and_false Bool.false_and Bool.or_true Bool.or_false Bool.true_or Bool.false_or Bool.not_true Bool.not_false List.length_cons List.length_nil List.take List.drop List.getD_cons_zero List.getD_cons_succ List.getElem?_cons_zero List.getElem?_cons_succ List.replicate List.flatten Wp_skip Wp_exit Wp_ret Wp_kil Wp_reg Wi_nil Wi_cons Wp_seq Wp_cond Wp_block seqQ_norm seqQ_exit seqQ_ret blkQ_norm blkQ_exit blkQ_ret nrQ_norm nrQ_exit nrQ_ret lpQ_norm lpQ_exit lpQ_ret outQ_norm outQ_ret rgQ_at kilR kil1 kil kilL sets List.set_cons_zero List.set_cons_succ kilR0 frzd isFz ren renL frV frQ_norm frQ_ret retFr shrF shrFL arrV1
attribute [local simp] wrap_id
theorem c16f (e : Int) (he : e ≠ 0) (ok : Bool) (w : Num) : D E 16 [encN zN, .int .i64 e, .int .i64 e, .bool ok, encN w] = some (.bool true) := by
  refine wpE (F := ir16) (by kernel_rfl) (by kernel_rfl) ?_
  unfold encN enc zN
  simp [ir16, he]
theorem c16o (w : Num) : D E 16 [encN zN, .int .i64 11, .int .i64 0, .bool false, encN w] = some (.bool true) := by
  refine wpE (F := ir16) (by kernel_rfl) (by kernel_rfl) ?_
  unfold encN enc zN
  simp [ir16]
theorem c16t (w : Num) (h : GN w) : D E 16 [encN w, .int .i64 0, .int .i64 0, .bool true, encN w] = some (.bool true) := by
  refine wpE (F := ir16) (by kernel_rfl) (by kernel_rfl) ?_
  have h1 := c17 w h
  unfold encN enc at *
  simp [ir16, h1]
theorem c6 : D E 6 [] = some (.bool true) := D_of (n := 20) (by kernel_rfl)
theorem GN_ofs (l : List Int) : ∀ a ∈ l.map ofW, GN a := by
  intro a ha
  obtain ⟨x, _, rfl⟩ := List.mem_map.1 ha
  exact ofW_G x
theorem c7 (m : Mt) (h : u64s m.l) (hl : m.l.length ≤ 100000) : D E 7 [encM m] = some (if finM m = 0 then .tup [encN ((m.l.map ofW).foldl mostP zN), .int .i64 0] else .tup [encN zN, .int .i64 (finM m)]) := by
  refine wpE (F := ir7) (by kernel_rfl) (by kernel_rfl) ?_
  have h1 := c26 [m] (by simpa using h) (by simp)
  have h2 := c27 m.r m.c m.l hl
  have h3 := c28 m.r m.c (m.l.map ofW) (GN_ofs _) (by simpa using hl)
  by_cases hz : finM m = 0
  · rw [if_pos hz]
    simp only [firstF, hz, if_true, List.map_cons, List.map_nil, encM, mat, grd] at h1 h2 h3
    unfold encM mat
    simp only [encN, enc] at h3
    simp [-List.map_map, ir7, h1, h2, h3, encN, enc]
  · rw [if_neg hz]
    simp only [firstF, hz, if_false, List.map_cons, List.map_nil, encM, mat] at h1
    unfold encM mat
    simp [ir7, h1, hz, encN, enc, zN]
end Go.Proofs.YtejmahnbecglfaaDoor.Den
end
section
set_option linter.unusedVariables false
set_option linter.unusedSimpArgs false
namespace Go.Proofs.YtejmahnbecglfaaDoor.Den
open Go
open Go.Proofs.YtejmahnbecglfaaDoor.OwnA (u64s finF)
set_option maxRecDepth 10000
set_option maxHeartbeats 4000000
attribute [local simp] Ok_true Br_true Br_false rtV exec_none exec_some opV dstB dstW upd_nil upd_cons upd1_at args0_zero args0_succ args0_nil ev cellsV isDead notSelf allCell cellB shrL shr ownsL owns ownE elems frz noLst noLstL outV_ret outV_norm retV resL resV tupV nmL nm boolV isBoolV isSkV binV unV fillV chunk sizesB sizeV List.mapIdx_cons List.mapIdx_nil List.mapIdx List.mapIdx.go List.range List.range.loop List.map_cons List.map_nil Option.isSome_some Option.isSome_none Option.getD_some Option.map_some Option.bind_some Option.map_none Option.bind_none List.append_nil List.nil_append List.cons_append List.isEmpty_nil List.isEmpty_cons Bool.and_true Bool.true_and Bool.and_false Bool.false_and Bool.or_true Bool.or_false Bool.true_or Bool.false_or Bool.not_true Bool.not_false List.length_cons List.length_nil List.take List.drop List.getD_cons_zero List.getD_cons_succ List.getElem?_cons_zero List.getElem?_cons_succ List.replicate List.flatten Wp_skip Wp_exit Wp_ret Wp_kil Wp_reg Wi_nil Wi_cons Wp_seq Wp_cond Wp_block seqQ_norm seqQ_exit seqQ_ret blkQ_norm blkQ_exit blkQ_ret nrQ_norm nrQ_exit nrQ_ret lpQ_norm lpQ_exit lpQ_ret outQ_norm outQ_ret rgQ_at kilR kil1 kil kilL sets List.set_cons_zero List.set_cons_succ kilR0 frzd isFz ren renL frV frQ_norm frQ_ret retFr shrF shrFL arrV1
attribute [local simp] wrap_id
/-- what comes of a matrix that is finite -/
theorem fin_fits {m : Mt} (h : finM m = 0) : 1 ≤ m.r ∧ m.r ≤ 64 ∧ 1 ≤ m.c ∧ m.c ≤ 64 ∧ m.l.length = m.r.toNat * m.c.toNat := by
  unfold finM finF at h
  split at h
  · rename_i hf
    unfold OwnA.fits at hf
    rw [Bool.and_eq_true, Bool.and_eq_true, OwnA.sideB_iff, OwnA.sideB_iff, decide_eq_true_iff] at hf
    obtain ⟨⟨a, b⟩, ⟨c, d⟩, e⟩ := hf
    refine ⟨a, b, c, d, ?_⟩
    have h1 : (m.r.toNat : Int) = m.r := Int.toNat_of_nonneg (by omega)
    have h2 : (m.c.toNat : Int) = m.c := Int.toNat_of_nonneg (by omega)
    have : ((m.l.length : Nat) : Int) = ((m.r.toNat * m.c.toNat : Nat) : Int) := by rw [Int.natCast_mul, h1, h2]; exact e
    exact Int.ofNat.inj this
  · exact absurd h (by decide)
/-- the numbers of a product -/
noncomputable def pN (a b : Mt) : List Num := prodN (fun i j => dotN (gat a.r.toNat a.c.toNat (a.l.map ofW) i) (fun k => gat b.r.toNat b.c.toNat (b.l.map ofW) k j) a.c.toNat) b.c.toNat a.r.toNat
theorem p30 {a b : Mt} (ha : finM a = 0) (hb : finM b = 0) : D E 30 [grd a.r a.c (a.l.map ofW), grd b.r b.c (b.l.map ofW)] = some (grd a.r b.c (pN a b)) := by
  obtain ⟨a1, a2, a3, a4, a5⟩ := fin_fits ha
  obtain ⟨b1, b2, b3, b4, b5⟩ := fin_fits hb
  have := c30 a.r.toNat a.c.toNat b.r.toNat b.c.toNat (a.l.map ofW) (b.l.map ofW) (GN_ofs _) (GN_ofs _) (by omega) (by omega) (by omega) (by omega) (by omega) (by rw [List.length_map]; exact a5) (by rw [List.length_map]; exact b5)
  rw [Int.toNat_of_nonneg (by omega), Int.toNat_of_nonneg (by omega), Int.toNat_of_nonneg (by omega), Int.toNat_of_nonneg (by omega)] at this
  rw [this]
  unfold pN
  rw [Int.toNat_of_nonneg (by omega), Int.toNat_of_nonneg (by omega), Int.toNat_of_nonneg (by omega), Int.toNat_of_nonneg (by omega)]
theorem c9 (a b : Mt) (ua : u64s a.l) (ub : u64s b.l) (h : firstF [a, b] = 0) (hf : a.c = b.r) : D E 9 [encM a, encM b] = some (.tup [.lst ((pN a b).map encN), .int .i64 0]) := by
  refine wpE (F := ir9) (by kernel_rfl) (by kernel_rfl) ?_
  have h1 := c26 [a, b] (by simp; exact ⟨ua, ub⟩) (by simp)
  rw [h] at h1
  have ha : finM a = 0 := by
    by_cases hz : finM a = 0
    · exact hz
    · simp [firstF, hz] at h
  have hb : finM b = 0 := by
    by_cases hz : finM b = 0
    · exact hz
    · simp [firstF, ha, hz] at h
  have h2 := c27 a.r a.c a.l (by have := fin_fits ha; have := Nat.mul_le_mul (show a.r.toNat ≤ 64 by omega) (show a.c.toNat ≤ 64 by omega); omega)
  have h3 := c27 b.r b.c b.l (by have := fin_fits hb; have := Nat.mul_le_mul (show b.r.toNat ≤ 64 by omega) (show b.c.toNat ≤ 64 by omega); omega)
  have h4 := p30 ha hb
  simp only [List.map_cons, List.map_nil, encM, mat, grd] at h1 h2 h3 h4
  rw [hf] at h1 h2 h4
  unfold encM mat
  rw [hf]
  simp [-List.map_map, ir9, h1, h2, h3, h4]
end Go.Proofs.YtejmahnbecglfaaDoor.Den
end
