/- Parts of the proof, joined: How far mirrors are off: the program's answers. Grids: the law's product where rows are lacking; the program's is the same. -/
import Derived.Test.YtejmahnbecglfaaDoorCLE
import Derived.Test.YtejmahnbecglfaaDoorCV
import Derived.Test.YtejmahnbecglfaaDoorCLB
section
set_option linter.unusedVariables false
set_option linter.unusedSimpArgs false
namespace Go.Proofs.YtejmahnbecglfaaDoor.Den
open Go
open Go.Proofs.YtejmahnbecglfaaDoor.OwnA (u64s finF)
set_option maxRecDepth 10000
set_option maxHeartbeats 8000000
attribute [local simp] Ok_true Br_true Br_false rtV exec_none exec_some opV dstB dstW upd_nil upd_cons upd1_at args0_zero args0_succ args0_nil ev cellsV isDead notSelf allCell cellB shrL shr ownsL owns ownE elems frz noLst noLstL outV_ret outV_norm retV resL resV tupV nmL nm boolV isBoolV isSkV binV unV fillV chunk sizesB sizeV List.mapIdx_cons List.mapIdx_nil List.mapIdx List.mapIdx.go List.range List.range.loop List.map_cons List.map_nil Option.isSome_some Option.isSome_none Option.getD_some Option.map_some Option.bind_some Option.map_none Option.bind_none List.append_nil List.nil_append List.cons_append List.isEmpty_nil List.isEmpty_cons Bool.and_true Bool.true_and Bool.and_false Bool.false_and Bool.or_true Bool.or_false Bool.true_or Bool.false_or Bool.not_true Bool.not_false List.length_cons List.length_nil List.take List.drop List.getD_cons_zero List.getD_cons_succ List.getElem?_cons_zero List.getElem?_cons_succ List.replicate List.flatten Wp_skip Wp_exit Wp_ret Wp_kil Wp_reg Wi_nil Wi_cons Wp_seq Wp_cond Wp_block seqQ_norm seqQ_exit seqQ_ret blkQ_norm blkQ_exit blkQ_ret nrQ_norm nrQ_exit nrQ_ret lpQ_norm lpQ_exit lpQ_ret outQ_norm outQ_ret rgQ_at kilR kil1 kil kilL sets List.set_cons_zero List.set_cons_succ kilR0 frzd isFz ren renL frV frQ_norm frQ_ret retFr shrF shrFL arrV1
attribute [local simp] wrap_id
theorem c18e (a y t r : Mt) (ua : u64s a.l) (uy : u64s y.l) (ut : u64s t.l) (ur : u64s r.l) (h : firstF [a, y, t, r] ≠ 0) : D E 18 [encM a, encM y, encM t, encM r] = some (.tup [encN zN, encN zN, .int .i64 (firstF [a, y, t, r])]) := by
  refine wpE (F := ir18) (by kernel_rfl) (by kernel_rfl) ?_
  have h1 := c26 [a, y, t, r] (by simp; exact ⟨ua, uy, ut, ur⟩) (by simp)
  generalize firstF [a, y, t, r] = e at h h1 ⊢
  simp only [List.map_cons, List.map_nil, encM, mat] at h1
  unfold encM mat
  simp [-List.map_map, ir18, h1, h, encN, enc, zN]
theorem c18o0 (p q yr yc tr tc rr rc : Int) (h : yr ≠ p) (al yl tl rl : List Int) (k1 : D E 26 [.lst [mat p q al, mat yr yc yl, mat tr tc tl, mat rr rc rl]] = some (.int .i64 0)) :
    D E 18 [mat p q al, mat yr yc yl, mat tr tc tl, mat rr rc rl] = some (.tup [encN zN, encN zN, .int .i64 11]) := by
  refine wpE (F := ir18) (by kernel_rfl) (by kernel_rfl) ?_
  have ha : ¬ yr = p := h
  have hc : (yr == p) = false := beq_eq_false_iff_ne.2 h
  unfold mat at *
  simp [-List.map_map, ir18, k1, encN, enc, zN, h, ha, hc]
theorem c18o1 (p q yc tr tc rr rc : Int) (h : yc ≠ q) (al yl tl rl : List Int) (k1 : D E 26 [.lst [mat p q al, mat p yc yl, mat tr tc tl, mat rr rc rl]] = some (.int .i64 0)) :
    D E 18 [mat p q al, mat p yc yl, mat tr tc tl, mat rr rc rl] = some (.tup [encN zN, encN zN, .int .i64 11]) := by
  refine wpE (F := ir18) (by kernel_rfl) (by kernel_rfl) ?_
  have ha : ¬ yc = q := h
  have hc : (yc == q) = false := beq_eq_false_iff_ne.2 h
  unfold mat at *
  simp [-List.map_map, ir18, k1, encN, enc, zN, h, ha, hc]
theorem c18o2 (p q tr tc rr rc : Int) (h : tr ≠ q) (al yl tl rl : List Int) (k1 : D E 26 [.lst [mat p q al, mat p q yl, mat tr tc tl, mat rr rc rl]] = some (.int .i64 0)) :
    D E 18 [mat p q al, mat p q yl, mat tr tc tl, mat rr rc rl] = some (.tup [encN zN, encN zN, .int .i64 11]) := by
  refine wpE (F := ir18) (by kernel_rfl) (by kernel_rfl) ?_
  have ha : ¬ tr = q := h
  have hc : (tr == q) = false := beq_eq_false_iff_ne.2 h
  unfold mat at *
  simp [-List.map_map, ir18, k1, encN, enc, zN, h, ha, hc]
theorem c18o3 (p q tc rr rc : Int) (h : tc ≠ q) (al yl tl rl : List Int) (k1 : D E 26 [.lst [mat p q al, mat p q yl, mat q tc tl, mat rr rc rl]] = some (.int .i64 0)) :
    D E 18 [mat p q al, mat p q yl, mat q tc tl, mat rr rc rl] = some (.tup [encN zN, encN zN, .int .i64 11]) := by
  refine wpE (F := ir18) (by kernel_rfl) (by kernel_rfl) ?_
  have ha : ¬ tc = q := h
  have hc : (tc == q) = false := beq_eq_false_iff_ne.2 h
  unfold mat at *
  simp [-List.map_map, ir18, k1, encN, enc, zN, h, ha, hc]
theorem c18o4 (p q rr rc : Int) (h : rr ≠ q) (al yl tl rl : List Int) (k1 : D E 26 [.lst [mat p q al, mat p q yl, mat q q tl, mat rr rc rl]] = some (.int .i64 0)) :
    D E 18 [mat p q al, mat p q yl, mat q q tl, mat rr rc rl] = some (.tup [encN zN, encN zN, .int .i64 11]) := by
  refine wpE (F := ir18) (by kernel_rfl) (by kernel_rfl) ?_
  have ha : ¬ rr = q := h
  have hc : (rr == q) = false := beq_eq_false_iff_ne.2 h
  unfold mat at *
  simp [-List.map_map, ir18, k1, encN, enc, zN, h, ha, hc]
theorem c18o5 (p q rc : Int) (h : rc ≠ q) (al yl tl rl : List Int) (k1 : D E 26 [.lst [mat p q al, mat p q yl, mat q q tl, mat q rc rl]] = some (.int .i64 0)) :
    D E 18 [mat p q al, mat p q yl, mat q q tl, mat q rc rl] = some (.tup [encN zN, encN zN, .int .i64 11]) := by
  refine wpE (F := ir18) (by kernel_rfl) (by kernel_rfl) ?_
  have ha : ¬ rc = q := h
  have hc : (rc == q) = false := beq_eq_false_iff_ne.2 h
  unfold mat at *
  simp [-List.map_map, ir18, k1, encN, enc, zN, h, ha, hc]
theorem c18o6 (p q : Int) (h : p < q) (al yl tl rl : List Int) (k1 : D E 26 [.lst [mat p q al, mat p q yl, mat q q tl, mat q q rl]] = some (.int .i64 0)) :
    D E 18 [mat p q al, mat p q yl, mat q q tl, mat q q rl] = some (.tup [encN zN, encN zN, .int .i64 11]) := by
  refine wpE (F := ir18) (by kernel_rfl) (by kernel_rfl) ?_
  have ha : ¬ p ≥ q := by omega
  have hb : ¬ q ≤ p := by omega
  unfold mat at *
  simp [-List.map_map, ir18, k1, encN, enc, zN, h, ha, hb]
theorem c18t (p q : Int) (h : q ≤ p) (al yl tl rl : List Int) (GA GY GT GR U Y1 YT Y2 Q A1 A2 QT B1 B2 : List Num) (X Z : Num)
    (k1 : D E 26 [.lst [mat p q al, mat p q yl, mat q q tl, mat q q rl]] = some (.int .i64 0))
    (k2 : D E 27 [mat p q yl] = some (grd p q GY)) (k3 : D E 38 [.int .i64 p] = some (grd p p U)) (k4 : D E 27 [mat q q tl] = some (grd q q GT)) (k5 : D E 30 [grd p q GY, grd q q GT] = some (grd p q Y1))
    (k6 : D E 39 [grd p q GY] = some (grd q p YT)) (k7 : D E 30 [grd p q Y1, grd q p YT] = some (grd p p Y2)) (k8 : D E 29 [grd p p U, grd p p Y2] = some (grd p p Q))
    (m1 : D E 27 [mat p q al] = some (grd p q GA)) (m2 : D E 27 [mat q q rl] = some (grd q q GR)) (m3 : D E 30 [grd p p Q, grd q q GR] = some (grd p q A1)) (m4 : D E 29 [grd p q GA, grd p q A1] = some (grd p q A2)) (m5 : D E 28 [grd p q A2] = some (encN X))
    (m6 : D E 39 [grd p p Q] = some (grd p p QT)) (m7 : D E 30 [grd p p QT, grd p p Q] = some (grd p p B1)) (m8 : D E 29 [grd p p B1, grd p p U] = some (grd p p B2)) (m9 : D E 28 [grd p p B2] = some (encN Z)) :
    D E 18 [mat p q al, mat p q yl, mat q q tl, mat q q rl] = some (.tup [encN X, encN Z, .int .i64 0]) := by
  refine wpE (F := ir18) (by kernel_rfl) (by kernel_rfl) ?_
  have ha : ¬ p < q := by omega
  unfold mat grd at *
  simp only [encN, enc] at m5 m9
  simp [-List.map_map, ir18, k1, k2, k3, k4, k5, k6, k7, k8, m1, m2, m3, m4, m5, m6, m7, m8, m9, h, ha, encN, enc]
end Go.Proofs.YtejmahnbecglfaaDoor.Den
end
section
set_option linter.unusedVariables false
set_option linter.unusedSimpArgs false
namespace Go.Proofs.YtejmahnbecglfaaDoor.Den
open Go
set_option maxRecDepth 10000
set_option maxHeartbeats 4000000
attribute [local simp] Ok_true Br_true Br_false rtV exec_none exec_some opV dstB dstW upd_nil upd_cons upd1_at args0_zero args0_succ args0_nil ev cellsV isDead notSelf allCell cellB shrL shr ownsL owns ownE elems frz noLst noLstL outV_ret outV_norm retV resL resV tupV nmL nm boolV isBoolV isSkV binV unV fillV chunk sizesB sizeV List.mapIdx_cons List.mapIdx_nil List.mapIdx List.mapIdx.go List.range List.range.loop List.map_cons List.map_nil Option.isSome_some Option.isSome_none Option.getD_some Option.map_some Option.bind_some Option.map_none Option.bind_none List.append_nil List.nil_append List.cons_append List.isEmpty_nil List.isEmpty_cons Bool.and_true Bool.true_and Bool.and_false Bool.false_and Bool.or_true Bool.or_false Bool.true_or Bool.false_or Bool.not_true Bool.not_false List.length_cons List.length_nil List.take List.drop List.getD_cons_zero List.getD_cons_succ List.getElem?_cons_zero List.getElem?_cons_succ List.replicate List.flatten Wp_skip Wp_exit Wp_ret Wp_kil Wp_reg Wi_nil Wi_cons Wp_seq Wp_cond Wp_block seqQ_norm seqQ_exit seqQ_ret blkQ_norm blkQ_exit blkQ_ret nrQ_norm nrQ_exit nrQ_ret lpQ_norm lpQ_exit lpQ_ret outQ_norm outQ_ret rgQ_at kilR kil1 kil kilL sets List.set_cons_zero List.set_cons_succ kilR0 frzd isFz ren renL frV frQ_norm frQ_ret retFr shrF shrFL arrV1
attribute [local simp] wrap_id kil_ownV kil_arrV kil_lv
theorem CN_dot {g h : Nat → Num} (hg : ∀ k, GN (g k)) (hh : ∀ k, GN (h k)) : ∀ k, CN (dotN g h k)
  | 0 => .inl rfl
  | k + 1 => CN_add _ _ (GN_dot hg hh k) (GN_mul (hg k) (hh k))
/-- what is 0 beyond adds nothing -/
theorem dot_beyond {g h : Nat → Num} (hg : ∀ k, GN (g k)) (hh : ∀ k, GN (h k)) {n : Nat} (hz : ∀ k, n ≤ k → h k = zN) : ∀ m, n ≤ m → dotN g h m = dotN g h n
  | 0, hm => by rw [show n = 0 by omega]
  | m + 1, hm => by
    by_cases e : n = m + 1
    · rw [e]
    · rw [dotN, hz m (by omega), mulN_zN _ (hg m), addN_zN (CN_dot hg hh m) (GN_dot hg hh m), dot_beyond hg hh hz m (by omega)]
theorem row_congr {f g : Nat → Num} : ∀ n, (∀ i, i < n → f i = g i) → rowN f n = rowN g n
  | 0, _ => rfl
  | n + 1, h => by rw [rowN, rowN, row_congr n (fun i hi => h i (by omega)), h n (by omega)]
theorem prod_congr {f g : Nat → Nat → Num} (m : Nat) : ∀ n, (∀ i j, i < n → j < m → f i j = g i j) → prodN f m n = prodN g m n
  | 0, _ => rfl
  | n + 1, h => by rw [prodN, prodN, prod_congr m n (fun i j hi hj => h i j (by omega) hj), row_congr m (fun j hj => h n j (by omega) hj)]
/-- THE PROGRAM'S PRODUCT IS THE LAW'S. -/
theorem prod_beyond {r c r2 c2 : Nat} {M H : List Num} (gM : ∀ a ∈ M, GN a) (gH : ∀ a ∈ H, GN a) (hc : r2 ≤ c) :
    prodN (fun i j => dotN (gat r c M i) (fun k => gat r2 c2 H k j) c) c2 r = prodN (fun i j => dotN (gat r c M i) (fun k => gat r2 c2 H k j) r2) c2 r :=
  prod_congr c2 r (fun i j _ _ => dot_beyond (fun k => GN_gat gM _ _) (fun k => GN_gat gH _ _) (fun k hk => by unfold gat; rw [if_pos (by omega)]) c hc)
theorem c15g (r c r2 c2 : Nat) (M H : List Num) (gM : ∀ a ∈ M, GN a) (gH : ∀ a ∈ H, GN a) (hc1 : 1 ≤ r2) (hrc : r2 ≤ c) (hr : r ≤ 64) (hc : c ≤ 64) (hc2 : c2 ≤ 64) (hM : M.length = r * c) (hH : H.length = r2 * c2) :
    D E 15 [grd r c M, grd r2 c2 H] = some (grd r c2 (prodN (fun i j => dotN (gat r c M i) (fun k => gat r2 c2 H k j) r2) c2 r)) := by
  obtain ⟨f, hf⟩ : ∃ f : Nat → Nat → Num, f = fun i j => dotN (gat r c M i) (fun k => gat r2 c2 H k j) r2 := ⟨_, rfl⟩
  rw [← hf]
  refine wpE (F := ir15) (by kernel_rfl) (by kernel_rfl) ?_
  unfold grd
  simp [ir15]
  refine Wp_loopS _ _ (fun i : Nat => [(6, .int .i64 i), (81, ownV (prodN f c2 i).length), (85, arrV (prodN f c2 i).length 3 27 ((prodN f c2 i).map encN))]) (fun i => i ≤ r) (fun i => r - i) 0 (by omega) (by simp [ownV, arrV, prodN]) ?_
  intro i hi0
  by_cases hi : i < r
  · have hn : (i : Int) < (r : Int) := by omega
    have hw : IntKind.i64.wrap ((i : Int) + 1) = (i : Int) + 1 := wrap_id (by omega) (by omega)
    simp [hn]
    refine Wp_loopS _ _ (fun j : Nat => [(7, .int .i64 j), (81, ownV (accN f c2 i j).length), (85, arrV (accN f c2 i j).length 3 27 ((accN f c2 i j).map encN))]) (fun j => j ≤ c2) (fun j => c2 - j) 0 (by omega) (by simp [accN_zero]) ?_
    intro j hj0
    by_cases hj : j < c2
    · have hjn : (j : Int) < (c2 : Int) := by omega
      have hjw : IntKind.i64.wrap ((j : Int) + 1) = (j : Int) + 1 := wrap_id (by omega) (by omega)
      simp [hjn]
      refine Wp_loopS _ _ (fun s : Nat × Bool => [(9, .int .i64 s.1), (82, .bool (dotN (gat r c M i) (fun k => gat r2 c2 H k j) s.1).n), (83, lv s.2 (dotN (gat r c M i) (fun k => gat r2 c2 H k j) s.1).l), (84, .int .i64 (dotN (gat r c M i) (fun k => gat r2 c2 H k j) s.1).x)]) (fun s => s.1 ≤ r2 ∧ (s.2 = true ↔ s.1 = 0)) (fun s => r2 - s.1) (0, true) ⟨by simp, by simp⟩ (by simp [lv, dotN, zN]) ?_
      rintro ⟨k, q⟩ ⟨hk0, hq⟩
      simp only at hk0 hq
      by_cases hk : k < r2
      · have hkn : (k : Int) < (c : Int) := by omega
        have hkn2 : (k : Int) < (r2 : Int) := by omega
        have hkc : k < c := by omega
        have hkw : IntKind.i64.wrap ((k : Int) + 1) = (k : Int) + 1 := wrap_id (by omega) (by omega)
        have l1 : i * c + k < M.length := by rw [hM]; exact idx_lt hi hkc
        have l2 : k * c2 + j < H.length := by rw [hH]; exact idx_lt hk hj
        have e1 := gat_get hi l1
        have e2 := gat_get hk l2
        obtain ⟨p1, hp1⟩ : ∃ p, i * c + k = p := ⟨_, rfl⟩
        obtain ⟨p2, hp2⟩ : ∃ p, k * c2 + j = p := ⟨_, rfl⟩
        obtain ⟨w1, w2⟩ := idx_w (by omega) hc (by omega) hp1
        obtain ⟨w3, w4⟩ := idx_w (by omega) hc2 (by omega) hp2
        obtain ⟨q1, hq1⟩ : ∃ q : Int, ((i * c : Nat) : Int) = q := ⟨_, rfl⟩
        obtain ⟨q2, hq2⟩ : ∃ q : Int, ((k * c2 : Nat) : Int) = q := ⟨_, rfl⟩
        rw [hq1] at w1 w2
        rw [hq2] at w3 w4
        simp only [hp1] at l1 e1
        simp only [hp2] at l2 e2
        have a3 := c36 (GN_gat gM (r := r) (c := c) i k) (GN_gat gH (r := r2) (c := c2) k j)
        have a4 := c35 (GN_dot (fun k => GN_gat gM (r := r) (c := c) i k) (fun k => GN_gat gH (r := r2) (c := c2) k j) k) (GN_mul (GN_gat gM (r := r) (c := c) i k) (GN_gat gH (r := r2) (c := c2) k j))
        have hs : dotN (gat r c M i) (fun k => gat r2 c2 H k j) (k + 1) = addN (dotN (gat r c M i) (fun k => gat r2 c2 H k j) k) (mulN (gat r c M i k) (gat r2 c2 H k j)) := rfl
        rw [e1, e2] at a3 a4 hs
        cases q with
        | true =>
          have hdl : (dotN (gat r c M i) (fun k => gat r2 c2 H k j) k).l = [] := by rw [hq.1 rfl]; rfl
          simp only [encN, enc] at a3 a4
          simp only [hdl, List.map_nil] at a4
          simp [hkn, hkn2, lv, w1, w2, w3, w4, l1, l2, a3, a4, hkw, encN, enc]
          refine nxt_i _ (k + 1, false) ⟨hk, by simp⟩ (by show r2 - (k + 1) < r2 - k; omega) ?_
          simp [lv, hs]
        | false =>
          simp only [grd, encN, enc] at a3 a4
          simp [hkn, hkn2, lv, w1, w2, w3, w4, l1, l2, a3, a4, hkw, encN, enc]
          refine nxt_i _ (k + 1, false) ⟨hk, by simp⟩ (by simp; omega) ?_
          simp [lv, hs]
      · have hkn : ¬ (k : Int) < (r2 : Int) := by omega
        have hke : k = r2 := by omega
        have hqf : q = false := by
          cases q with
          | true => have := hq.1 rfl; omega
          | false => rfl
        rw [hke] at hkn
        rw [hke, hqf]
        have hfe : f i j = dotN (gat r c M i) (fun k => gat r2 c2 H k j) r2 := by rw [hf]
        have hirr : ¬ (r2 : Int) < (r2 : Int) := by omega
        rw [← hfe]
        have hln := accN_len f c2 i j
        have hle : i * c2 ≤ 64 * 64 := Nat.mul_le_mul (by omega) hc2
        obtain ⟨A, hA⟩ : ∃ A, A = accN f c2 i j := ⟨_, rfl⟩
        rw [← hA] at hln ⊢
        have hb1 : (A.length + 1) * 40 ≤ 140737488355328 := by omega
        have hb2 : A.length + 1 ≤ big := by unfold big; omega
        have hs : accN f c2 i (j + 1) = A ++ [f i j] := by rw [hA]; exact accN_succ f c2 i j
        by_cases hcr0 : r2 < c
        · have hcr : (r2 : Int) < (c : Int) := by omega
          by_cases h0 : A.length = 0
          · have hA0 : A = [] := List.eq_nil_of_length_eq_zero h0
            have hn1 : 1 ≤ big := by unfold big; omega
            rw [hA0] at hs ⊢
            simp [hcr, hirr, lv, ownV, arrV, hn1, hjw]
            refine nxt_i _ (j + 1) hj (by omega) ?_
            rw [hs]
            simp [ownV, arrV, encN, enc]
          · simp [hcr, hirr, lv, ownV, arrV, h0, hb1, hb2, hjw]
            refine nxt_i _ (j + 1) hj (by omega) ?_
            rw [hs]
            simp [ownV, arrV, encN, enc]
        · have hcr : ¬ (r2 : Int) < (c : Int) := by omega
          by_cases h0 : A.length = 0
          · have hA0 : A = [] := List.eq_nil_of_length_eq_zero h0
            have hn1 : 1 ≤ big := by unfold big; omega
            rw [hA0] at hs ⊢
            simp [hcr, hirr, lv, ownV, arrV, hn1, hjw]
            refine nxt_i _ (j + 1) hj (by omega) ?_
            rw [hs]
            simp [ownV, arrV, encN, enc]
          · simp [hcr, hirr, lv, ownV, arrV, h0, hb1, hb2, hjw]
            refine nxt_i _ (j + 1) hj (by omega) ?_
            rw [hs]
            simp [ownV, arrV, encN, enc]
    · have hjn : ¬ (j : Int) < (c2 : Int) := by omega
      have hje : j = c2 := by omega
      rw [hje] at hjn ⊢
      simp [hjn, hw]
      refine nxt_i _ (i + 1) hi (by omega) ?_
      rw [← accN_full]
      simp
  · have hn : ¬ (i : Int) < (r : Int) := by omega
    have hie : i = r := by omega
    rw [hie] at hn ⊢
    by_cases h0 : (prodN f c2 r).length = 0
    · have hA0 : prodN f c2 r = [] := List.eq_nil_of_length_eq_zero h0
      rw [hA0]
      simp [hn, ownV, arrV]
    · simp [hn, ownV, arrV, h0]
end Go.Proofs.YtejmahnbecglfaaDoor.Den
end
