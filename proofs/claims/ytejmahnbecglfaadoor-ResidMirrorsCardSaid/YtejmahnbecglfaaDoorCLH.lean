/- Parts of the proof, joined: The law of mirrors: all fits. The law of mirrors, joined. -/
import Derived.Test.YtejmahnbecglfaaDoorCLF
import Derived.Test.YtejmahnbecglfaaDoorCLG
section
set_option linter.unusedVariables false
set_option linter.unusedSimpArgs false
namespace Go.Proofs.YtejmahnbecglfaaDoor.Den
open Go
open Go.Proofs.YtejmahnbecglfaaDoor.OwnA (u64s finF)
set_option maxRecDepth 10000
set_option maxHeartbeats 16000000
attribute [local simp] Ok_true Br_true Br_false rtV exec_none exec_some opV dstB dstW upd_nil upd_cons upd1_at args0_zero args0_succ args0_nil ev cellsV isDead notSelf allCell cellB shrL shr ownsL owns ownE elems frz noLst noLstL outV_ret outV_norm retV resL resV tupV nmL nm boolV isBoolV isSkV binV unV fillV chunk sizesB sizeV List.mapIdx_cons List.mapIdx_nil List.mapIdx List.mapIdx.go List.range List.range.loop List.map_cons List.map_nil Option.isSome_some Option.isSome_none Option.getD_some Option.map_some Option.bind_some Option.map_none Option.bind_none List.append_nil List.nil_append List.cons_append List.isEmpty_nil List.isEmpty_cons Bool.and_true Bool.true_and Bool.and_false Bool.false_and Bool.or_true Bool.or_false Bool.true_or Bool.false_or Bool.not_true Bool.not_false List.length_cons List.length_nil List.take List.drop List.getD_cons_zero List.getD_cons_succ List.getElem?_cons_zero List.getElem?_cons_succ List.replicate List.flatten Wp_skip Wp_exit Wp_ret Wp_kil Wp_reg Wi_nil Wi_cons Wp_seq Wp_cond Wp_block seqQ_norm seqQ_exit seqQ_ret blkQ_norm blkQ_exit blkQ_ret nrQ_norm nrQ_exit nrQ_ret lpQ_norm lpQ_exit lpQ_ret outQ_norm outQ_ret rgQ_at kilR kil1 kil kilL sets List.set_cons_zero List.set_cons_succ kilR0 frzd isFz ren renL frV frQ_norm frQ_ret retFr shrF shrFL arrV1
attribute [local simp] wrap_id kil_lv
/-- the first numbers are less already -/
def lessL (U P : List Num) (k : Nat) : List Num := (List.zipWith subN U P).take k ++ U.drop k
theorem lessL_zero (U P : List Num) : lessL U P 0 = U := by simp [lessL]
theorem lessL_full {U P : List Num} (h : U.length = P.length) : lessL U P U.length = List.zipWith subN U P := by
  unfold lessL
  rw [List.drop_eq_nil_of_le (Nat.le_refl _), List.append_nil, List.take_of_length_le (by rw [List.length_zipWith]; omega)]
theorem lessL_len {U P : List Num} (h : U.length = P.length) {k : Nat} (hk : k ≤ U.length) : (lessL U P k).length = U.length := by
  unfold lessL
  rw [List.length_append, List.length_take, List.length_drop, List.length_zipWith]
  omega
theorem lessL_at {U P : List Num} (h : U.length = P.length) {k : Nat} (hk : k < U.length) : (lessL U P k)[k]? = some (U[k]'hk) := by
  unfold lessL
  have hl : ((List.zipWith subN U P).take k).length = k := by rw [List.length_take, List.length_zipWith]; omega
  rw [List.getElem?_append_right (by omega), hl, Nat.sub_self, List.getElem?_drop, Nat.add_zero, List.getElem?_eq_getElem hk]
theorem lessL_set {U P : List Num} (h : U.length = P.length) {k : Nat} (hk : k < U.length) : (lessL U P k).set k (subN (U[k]'hk) (P[k]'(by omega))) = lessL U P (k + 1) := by
  unfold lessL
  have hz : k < (List.zipWith subN U P).length := by rw [List.length_zipWith]; omega
  have hl : ((List.zipWith subN U P).take k).length = k := by rw [List.length_take]; omega
  rw [List.set_append_right _ _ (by omega), hl, Nat.sub_self, List.drop_eq_getElem_cons hk, List.set_cons_zero, List.take_succ_eq_append_getElem hz, List.getElem_zipWith]
  simp
theorem c4c (p q : Int) (h : q ≤ p) (al yl tl rl : List Int) (GA GY GT GR U Y1 YT P A1 QT B1 : List Num) (X Z : Num) (gU : ∀ a ∈ U, GN a) (gP : ∀ a ∈ P, GN a) (hUP : U.length = P.length) (hU : U.length ≤ 100000)
    (k1 : D E 10 [.lst [mat p q al, mat p q yl, mat q q tl, mat q q rl]] = some (.int .i64 0)) (k2 : D E 18 [mat p q al, mat p q yl, mat q q tl, mat q q rl] = some (.tup [encN X, encN Z, .int .i64 0]))
    (k3 : D E 14 [mat p q yl] = some (grd p q GY)) (k4 : D E 14 [mat q q tl] = some (grd q q GT)) (k5 : D E 15 [grd p q GY, grd q q GT] = some (grd p q Y1)) (k6 : D E 19 [grd p q GY] = some (grd q p YT)) (k7 : D E 15 [grd p q Y1, grd q p YT] = some (grd p p P))
    (k8 : D E 1000020 [.int .i64 p] = some (.tup [.agg [.int .i64 p, .int .i64 p, .own 0 U.length], .arr true 3 27 (U.map encN)])) (k9 : D E 20 [.int .i64 p] = some (grd p p U))
    (m1 : D E 14 [mat p q al] = some (grd p q GA)) (m2 : D E 14 [mat q q rl] = some (grd q q GR)) (m3 : D E 15 [grd p p (List.zipWith subN U P), grd q q GR] = some (grd p q A1)) (m4 : D E 13 [grd p q GA, grd p q A1] = some (encN X))
    (m5 : D E 19 [grd p p (List.zipWith subN U P)] = some (grd p p QT)) (m6 : D E 15 [grd p p QT, grd p p (List.zipWith subN U P)] = some (grd p p B1)) (m7 : D E 13 [grd p p B1, grd p p U] = some (encN Z))
    (n1 : D E 16 [encN X, .int .i64 0, .int .i64 0, .bool true, encN X] = some (.bool true)) (n2 : D E 16 [encN Z, .int .i64 0, .int .i64 0, .bool true, encN Z] = some (.bool true)) :
    D E 4 [mat p q al, mat p q yl, mat q q tl, mat q q rl] = some (.bool true) := by
  refine wpE (F := ir4) (by kernel_rfl) (by kernel_rfl) ?_
  have hb : p ≥ q := h
  have k0 := c6
  unfold mat grd at *
  simp only [encN, enc] at k2 m4 m7 n1 n2
  simp [-List.map_map, ir4, k0, k1, k2, k3, k4, k5, k6, k7, k8, h, hb, encN, enc, zN]
  refine Wp_loopS _ _ (fun i : Nat => [(19, .int .i64 i), (180, .arr true 3 27 ((lessL U P i).map encN))]) (fun i => i ≤ U.length) (fun i => U.length - i) 0 (Nat.zero_le _) (by simp [lessL_zero, encN, enc]) ?_
  intro i hi0
  by_cases hi : i < U.length
  · have hn : (i : Int) < (U.length : Int) := by omega
    have hw : IntKind.i64.wrap ((i : Int) + 1) = (i : Int) + 1 := wrap_id (by omega) (by omega)
    have hiP : i < P.length := by omega
    have hln := lessL_len hUP (Nat.le_of_lt hi)
    have hat := lessL_at hUP hi
    have a1 := c21 (gU _ (List.getElem_mem hi)) (gP _ (List.getElem_mem hiP))
    have hs := lessL_set hUP hi
    have hget : (lessL U P i)[i]'(by omega) = U[i] := by
      rw [List.getElem?_eq_getElem (by omega)] at hat
      exact Option.some.inj hat
    rw [← hget] at a1 hs
    simp only [encN, enc] at a1
    simp [hn, hi, hiP, hw, hln, hat, a1, encN, enc]
    refine nxt_i _ (i + 1) hi (by show U.length - (i + 1) < U.length - i; omega) ?_
    rw [← hs]
    simp [List.map_set, encN, enc]
  · have hie : i = U.length := by omega
    have hn : ¬ (i : Int) < (U.length : Int) := by omega
    rw [hie] at hn ⊢
    rw [lessL_full hUP]
    have hzl : (List.zipWith subN U P).length = U.length := by rw [List.length_zipWith]; omega
    obtain ⟨Q, hQ⟩ : ∃ Q, List.zipWith subN U P = Q := ⟨_, rfl⟩
    rw [hQ] at hzl m3 m5 m6 ⊢
    rw [← hzl] at hn ⊢
    simp [-List.map_map, hn, k9, m1, m2, m3, m4, m5, m6, m7, n1, n2, encN, enc]
end Go.Proofs.YtejmahnbecglfaaDoor.Den
end
section
set_option linter.unusedVariables false
set_option linter.unusedSimpArgs false
namespace Go.Proofs.YtejmahnbecglfaaDoor.Den
open Go
open Go.Proofs.YtejmahnbecglfaaDoor.OwnA (u64s finF)
set_option maxRecDepth 10000
set_option maxHeartbeats 8000000
noncomputable def mulG (r c r2 c2 : Nat) (M H : List Num) : List Num := prodN (fun i j => dotN (gat r c M i) (fun k => gat r2 c2 H k j) r2) c2 r
theorem GN_mulG {r c r2 c2 : Nat} {M H : List Num} (gM : ∀ a ∈ M, GN a) (gH : ∀ a ∈ H, GN a) : ∀ x ∈ mulG r c r2 c2 M H, GN x := GN_prod2 (fun i j => GN_dot (fun k => GN_gat gM _ _) (fun k => GN_gat gH _ _) _) _ _
theorem mulG_len (r c r2 c2 : Nat) (M H : List Num) : (mulG r c r2 c2 M H).length = r * c2 := prodN_len ..
theorem q30 {r c r2 c2 : Nat} {M H : List Num} (gM : ∀ a ∈ M, GN a) (gH : ∀ a ∈ H, GN a) (h0 : 1 ≤ r2) (hrc : r2 ≤ c) (hr : r ≤ 64) (hc : c ≤ 64) (hc2 : c2 ≤ 64) (hM : M.length = r * c) (hH : H.length = r2 * c2) :
    D E 30 [grd r c M, grd r2 c2 H] = some (grd r c2 (mulG r c r2 c2 M H)) := by
  rw [c30 r c r2 c2 M H gM gH (by omega) hr hc (by omega) hc2 hM hH, prod_beyond gM gH hrc]; rfl
theorem q15 {r c r2 c2 : Nat} {M H : List Num} (gM : ∀ a ∈ M, GN a) (gH : ∀ a ∈ H, GN a) (h0 : 1 ≤ r2) (hrc : r2 ≤ c) (hr : r ≤ 64) (hc : c ≤ 64) (hc2 : c2 ≤ 64) (hM : M.length = r * c) (hH : H.length = r2 * c2) :
    D E 15 [grd r c M, grd r2 c2 H] = some (grd r c2 (mulG r c r2 c2 M H)) := c15g r c r2 c2 M H gM gH h0 hrc hr hc hc2 hM hH
theorem zip_len {A B : List Num} (h : A.length = B.length) : (List.zipWith subN A B).length = A.length := by rw [List.length_zipWith]; omega
theorem gU_len (n : Nat) : (gU n).length = n * n := by unfold gU; rw [List.length_map, idL_len]
theorem t4s (m n : Nat) (al yl tl rl : List Int) (n0 : 1 ≤ n) (hnm : n ≤ m) (m1 : m ≤ 64) (ua : u64s al) (uy : u64s yl) (ut : u64s tl) (ur : u64s rl) (h : firstF [⟨m, n, al⟩, ⟨m, n, yl⟩, ⟨n, n, tl⟩, ⟨n, n, rl⟩] = 0)
    (la : al.length = m * n) (ly : yl.length = m * n) (lt : tl.length = n * n) (lr : rl.length = n * n) : D E 4 [mat m n al, mat m n yl, mat n n tl, mat n n rl] = some (.bool true) := by
  have k1 : D E 10 [.lst [encM ⟨m, n, al⟩, encM ⟨m, n, yl⟩, encM ⟨n, n, tl⟩, encM ⟨n, n, rl⟩]] = some (.int .i64 (firstF [⟨m, n, al⟩, ⟨m, n, yl⟩, ⟨n, n, tl⟩, ⟨n, n, rl⟩])) := c10 [⟨m, n, al⟩, ⟨m, n, yl⟩, ⟨n, n, tl⟩, ⟨n, n, rl⟩] (by simp; exact ⟨ua, uy, ut, ur⟩) (by simp)
  have k26 : D E 26 [.lst [encM ⟨m, n, al⟩, encM ⟨m, n, yl⟩, encM ⟨n, n, tl⟩, encM ⟨n, n, rl⟩]] = some (.int .i64 (firstF [⟨m, n, al⟩, ⟨m, n, yl⟩, ⟨n, n, tl⟩, ⟨n, n, rl⟩])) := c26 [⟨m, n, al⟩, ⟨m, n, yl⟩, ⟨n, n, tl⟩, ⟨n, n, rl⟩] (by simp; exact ⟨ua, uy, ut, ur⟩) (by simp)
  rw [h] at k1 k26
  have b1 : m * n ≤ 64 * 64 := Nat.mul_le_mul m1 (by omega)
  have b2 : n * n ≤ 64 * 64 := Nat.mul_le_mul (by omega) (by omega)
  have b3 : m * m ≤ 64 * 64 := Nat.mul_le_mul m1 m1
  have hq : (n : Int) ≤ m := by omega
  have gA := GN_ofs al
  have gY := GN_ofs yl
  have gT := GN_ofs tl
  have gR := GN_ofs rl
  have lA : (al.map ofW).length = m * n := by rw [List.length_map]; exact la
  have lY : (yl.map ofW).length = m * n := by rw [List.length_map]; exact ly
  have lT : (tl.map ofW).length = n * n := by rw [List.length_map]; exact lt
  have lR : (rl.map ofW).length = n * n := by rw [List.length_map]; exact lr
  have gU' : ∀ x ∈ gU m, GN x := GN_ofs _
  have lU := gU_len m
  have a27 := c27 m n al (by omega)
  have y27 := c27 m n yl (by omega)
  have t27 := c27 n n tl (by omega)
  have r27 := c27 n n rl (by omega)
  have a14 := c14 m n al (by omega)
  have y14 := c14 m n yl (by omega)
  have t14 := c14 n n tl (by omega)
  have r14 := c14 n n rl (by omega)
  have u38 := c38 m (by omega) m1
  have u20 := c20 m (by omega) m1
  have uF := c20F m (by omega) m1
  rw [← lU] at uF
  generalize gU m = U at gU' lU u38 u20 uF
  generalize al.map ofW = A at gA lA a27 a14
  generalize yl.map ofW = Y at gY lY y27 y14
  generalize tl.map ofW = T at gT lT t27 t14
  generalize rl.map ofW = R at gR lR r27 r14
  have x5 := q30 gY gT n0 (Nat.le_refl n) m1 (by omega) (by omega) lY lT
  have z5 := q15 gY gT n0 (Nat.le_refl n) m1 (by omega) (by omega) lY lT
  have g1 := GN_mulG (r := m) (c := n) (r2 := n) (c2 := n) gY gT
  have l1 := mulG_len m n n n Y T
  generalize mulG m n n n Y T = Y1 at x5 z5 g1 l1
  have x6 := c39 m n Y m1 (by omega) lY
  have z6 := c19 m n Y m1 (by omega) lY
  have g2 := GN_tr (r := m) (c := n) gY
  have l2 := trN_len m n Y
  generalize trN m n Y = YT at x6 z6 g2 l2
  have x7 := q30 g1 g2 n0 (Nat.le_refl n) m1 (by omega) m1 l1 l2
  have z7 := q15 g1 g2 n0 (Nat.le_refl n) m1 (by omega) m1 l1 l2
  have g3 := GN_mulG (r := m) (c := n) (r2 := n) (c2 := m) g1 g2
  have l3 := mulG_len m n n m Y1 YT
  generalize mulG m n n m Y1 YT = P at x7 z7 g3 l3
  have hUP : U.length = P.length := by omega
  have x8 := c29 m m m m U P gU' g3 (by omega) hUP
  have g4 := GN_zip gU' g3
  have l4 := zip_len hUP
  obtain ⟨Q, hQ⟩ : ∃ Q, List.zipWith subN U P = Q := ⟨_, rfl⟩
  rw [hQ] at x8 g4 l4
  rw [lU] at l4
  have y3 := q30 g4 gR n0 hnm m1 m1 (by omega) l4 lR
  have w3 := q15 g4 gR n0 hnm m1 m1 (by omega) l4 lR
  have g5 := GN_mulG (r := m) (c := m) (r2 := n) (c2 := n) g4 gR
  have l5 := mulG_len m m n n Q R
  generalize mulG m m n n Q R = A1 at y3 w3 g5 l5
  have hA : A.length = A1.length := by omega
  have y4 := c29 m n m n A A1 gA g5 (by omega) hA
  have y5 := c28 m n (List.zipWith subN A A1) (GN_zip gA g5) (by rw [zip_len hA]; omega)
  have w4 := c13 m n m n A A1 gA g5 (by omega) hA
  rw [far_eq gA g5 hA] at y5
  have w8 := c16t _ (GN_far gA g5 A.length)
  have y6 := c39 m m Q m1 m1 l4
  have w6 := c19 m m Q m1 m1 l4
  have g6 := GN_tr (r := m) (c := m) g4
  have l6 := trN_len m m Q
  generalize trN m m Q = QT at y6 w6 g6 l6
  have y7 := q30 g6 g4 (by omega) (Nat.le_refl m) m1 m1 m1 l6 l4
  have w7 := q15 g6 g4 (by omega) (Nat.le_refl m) m1 m1 m1 l6 l4
  have g7 := GN_mulG (r := m) (c := m) (r2 := m) (c2 := m) g6 g4
  have l7 := mulG_len m m m m QT Q
  generalize mulG m m m m QT Q = B1 at y7 w7 g7 l7
  have hB : B1.length = U.length := by omega
  have y8 := c29 m m m m B1 U g7 gU' (by omega) hB
  have y9 := c28 m m (List.zipWith subN B1 U) (GN_zip g7 gU') (by rw [zip_len hB]; omega)
  have w9 := c13 m m m m B1 U g7 gU' (by omega) hB
  rw [far_eq g7 gU' hB] at y9
  have v8 := c16t _ (GN_far g7 gU' B1.length)
  have k2 := c18t m n hq al yl tl rl A Y T R U Y1 YT P Q A1 _ QT B1 _ _ _ k26 y27 u38 t27 x5 x6 x7 x8 a27 r27 y3 y4 y5 y6 y7 y8 y9
  exact c4c m n hq al yl tl rl A Y T R U Y1 YT P A1 QT B1 _ _ gU' g3 hUP (by omega) k1 k2 y14 t14 z5 z6 z7 uF u20 a14 r14 (by rw [hQ]; exact w3) w4 (by rw [hQ]; exact w6) (by rw [hQ]; exact w7) w9 w8 v8
theorem first4 {a y t r : Mt} (h : firstF [a, y, t, r] = 0) : finM a = 0 ∧ finM y = 0 ∧ finM t = 0 ∧ finM r = 0 := by
  by_cases e1 : finM a = 0
  · by_cases e2 : finM y = 0
    · by_cases e3 : finM t = 0
      · by_cases e4 : finM r = 0
        · exact ⟨e1, e2, e3, e4⟩
        · simp [firstF, e1, e2, e3, e4] at h
      · simp [firstF, e1, e2, e3] at h
    · simp [firstF, e1, e2] at h
  · simp [firstF, e1] at h
theorem t4a (a y t r : Mt) (ua : u64s a.l) (uy : u64s y.l) (ut : u64s t.l) (ur : u64s r.l) (h : firstF [a, y, t, r] ≠ 0) : D E 4 [encM a, encM y, encM t, encM r] = some (.bool true) := by
  have k1 : D E 10 [.lst [encM a, encM y, encM t, encM r]] = some (.int .i64 (firstF [a, y, t, r])) := c10 [a, y, t, r] (by simp; exact ⟨ua, uy, ut, ur⟩) (by simp)
  have k2 := c18e a y t r ua uy ut ur h
  obtain ⟨p, q, al⟩ := a
  obtain ⟨yr, yc, yl⟩ := y
  obtain ⟨tr, tc, tl⟩ := t
  obtain ⟨rr, rc, rl⟩ := r
  generalize firstF [⟨p, q, al⟩, ⟨yr, yc, yl⟩, ⟨tr, tc, tl⟩, ⟨rr, rc, rl⟩] = e at h k1 k2
  unfold encM at *
  simp only at *
  by_cases e0 : yr = p
  · subst e0
    by_cases e1 : yc = q
    · subst e1
      by_cases e2 : tr = yc
      · subst e2
        by_cases e3 : tc = tr
        · subst e3
          by_cases e4 : rr = tc
          · subst e4
            by_cases e5 : rc = rr
            · subst e5
              by_cases e6 : yr < rc
              · exact c4a6 _ _ e6 _ _ _ _ e h k1 k2
              · exact c4a7 _ _ (by omega) _ _ _ _ e h k1 k2
            · exact c4a5 _ _ _ e5 _ _ _ _ e h k1 k2
          · exact c4a4 _ _ _ _ e4 _ _ _ _ e h k1 k2
        · exact c4a3 _ _ _ _ _ e3 _ _ _ _ e h k1 k2
      · exact c4a2 _ _ _ _ _ _ e2 _ _ _ _ e h k1 k2
    · exact c4a1 _ _ _ _ _ _ _ e1 _ _ _ _ e h k1 k2
  · exact c4a0 _ _ _ _ _ _ _ _ e0 _ _ _ _ e h k1 k2
theorem t4 (a y t r : Mt) (ua : u64s a.l) (uy : u64s y.l) (ut : u64s t.l) (ur : u64s r.l) : D E 4 [encM a, encM y, encM t, encM r] = some (.bool true) := by
  by_cases h : firstF [a, y, t, r] = 0
  · obtain ⟨fa, fy, ft, fr⟩ := first4 h
    obtain ⟨a1, a2, a3, a4, a5⟩ := fin_fits fa
    obtain ⟨y1, y2, y3, y4, y5⟩ := fin_fits fy
    obtain ⟨t1, t2, t3, t4, t5⟩ := fin_fits ft
    obtain ⟨r1, r2, r3, r4, r5⟩ := fin_fits fr
    have k1 : D E 10 [.lst [encM a, encM y, encM t, encM r]] = some (.int .i64 (firstF [a, y, t, r])) := c10 [a, y, t, r] (by simp; exact ⟨ua, uy, ut, ur⟩) (by simp)
    have k26 : D E 26 [.lst [encM a, encM y, encM t, encM r]] = some (.int .i64 (firstF [a, y, t, r])) := c26 [a, y, t, r] (by simp; exact ⟨ua, uy, ut, ur⟩) (by simp)
    rw [h] at k1 k26
    obtain ⟨p, q, al⟩ := a
    obtain ⟨yr, yc, yl⟩ := y
    obtain ⟨tr, tc, tl⟩ := t
    obtain ⟨rr, rc, rl⟩ := r
    unfold encM at *
    simp only at *
    by_cases e0 : yr = p
    · subst e0
      by_cases e1 : yc = q
      · subst e1
        by_cases e2 : tr = yc
        · subst e2
          by_cases e3 : tc = tr
          · subst e3
            by_cases e4 : rr = tc
            · subst e4
              by_cases e5 : rc = rr
              · subst e5
                by_cases e6 : yr < rc
                · exact c4b6 _ _ e6 _ _ _ _ k1 (c18o6 _ _ e6 _ _ _ _ k26)
                · obtain ⟨m, rfl⟩ := Int.eq_ofNat_of_zero_le (show 0 ≤ yr by omega)
                  obtain ⟨n, rfl⟩ := Int.eq_ofNat_of_zero_le (show 0 ≤ rc by omega)
                  rw [Int.toNat_natCast, Int.toNat_natCast] at a5 y5
                  rw [Int.toNat_natCast] at t5 r5
                  exact t4s m n al yl tl rl (by omega) (by omega) (by omega) ua uy ut ur h a5 y5 t5 r5
              · exact c4b5 _ _ _ e5 _ _ _ _ k1 (c18o5 _ _ _ e5 _ _ _ _ k26)
            · exact c4b4 _ _ _ _ e4 _ _ _ _ k1 (c18o4 _ _ _ _ e4 _ _ _ _ k26)
          · exact c4b3 _ _ _ _ _ e3 _ _ _ _ k1 (c18o3 _ _ _ _ _ e3 _ _ _ _ k26)
        · exact c4b2 _ _ _ _ _ _ e2 _ _ _ _ k1 (c18o2 _ _ _ _ _ _ e2 _ _ _ _ k26)
      · exact c4b1 _ _ _ _ _ _ _ e1 _ _ _ _ k1 (c18o1 _ _ _ _ _ _ _ e1 _ _ _ _ k26)
    · exact c4b0 _ _ _ _ _ _ _ _ e0 _ _ _ _ k1 (c18o0 _ _ _ _ _ _ _ _ e0 _ _ _ _ k26)
  · exact t4a a y t r ua uy ut ur h
end Go.Proofs.YtejmahnbecglfaaDoor.Den
end
