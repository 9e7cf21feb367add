/- The law: of what is finite, and fits. -/
import Derived.Test.YtejmahnbecglfaaDoorCL25

set_option linter.unusedVariables false
set_option linter.unusedSimpArgs false
namespace Go.Proofs.YtejmahnbecglfaaDoor.Den
open Go
open Go.Proofs.YtejmahnbecglfaaDoor.OwnA (u64s finF)
set_option maxRecDepth 10000
set_option maxHeartbeats 8000000
attribute [local simp] Ok_true Br_true Br_false rtV exec_none exec_some opV dstB dstW upd_nil upd_cons upd1_at args0_zero args0_succ args0_nil ev cellsV isDead notSelf allCell cellB shrL shr ownsL owns ownE elems frz noLst noLstL outV_ret outV_norm retV resL resV tupV nmL nm boolV isBoolV isSkV binV unV fillV chunk sizesB sizeV List.mapIdx_cons List.mapIdx_nil List.mapIdx List.mapIdx.go List.range List.range.loop List.map_cons List.map_nil Option.isSome_some Option.isSome_none Option.getD_some Option.map_some Option.bind_some Option.map_none Option.bind_none List.append_nil List.nil_append List.cons_append List.isEmpty_nil List.isEmpty_cons Bool.and_true Bool.true_and Bool.and_false Bool.false_and Bool.or_true Bool.or_false Bool.true_or Bool.false_or Bool.not_true Bool.not_false List.length_cons List.length_nil List.take List.drop List.getD_cons_zero List.getD_cons_succ List.getElem?_cons_zero List.getElem?_cons_succ List.replicate List.flatten Wp_skip Wp_exit Wp_ret Wp_kil Wp_reg Wi_nil Wi_cons Wp_seq Wp_cond Wp_block seqQ_norm seqQ_exit seqQ_ret blkQ_norm blkQ_exit blkQ_ret nrQ_norm nrQ_exit nrQ_ret lpQ_norm lpQ_exit lpQ_ret outQ_norm outQ_ret rgQ_at kilR kil1 kil kilL sets List.set_cons_zero List.set_cons_succ
attribute [local simp] wrap_id kil_lv
theorem t3e (a b c : Mt) (ua : u64s a.l) (ub : u64s b.l) (uc : u64s c.l) (h : finM a = 0) (h2 : finM b = 0) (e1 : a.c = b.r) (h3 : ¬ (finM c = 0 ∧ c.r = a.r ∧ c.c = b.c)) :
    D E 3 [encM a, encM b, encM c] = some (.bool true) := by
  refine wpE (F := ir3) (by kernel_rfl) (by kernel_rfl) ?_
  have h6 := c6
  obtain ⟨ar, ac, al⟩ := a
  obtain ⟨br, bc, bl⟩ := b
  obtain ⟨cr, cc, cl⟩ := c
  have hla : 1 ≤ al.length := by
    have := fin_fits h
    obtain ⟨r1, r2, r3, r4, r5⟩ := this
    simp only at r1 r2 r3 r4 r5
    rw [r5]
    exact Nat.mul_pos (show 0 < ar.toNat by omega) (show 0 < ac.toNat by omega)
  have hla2 : al.length ≤ 100000 := by
    obtain ⟨r1, r2, r3, r4, r5⟩ := fin_fits h
    simp only at r1 r2 r3 r4 r5
    have := Nat.mul_le_mul (show ar.toNat ≤ 64 by omega) (show ac.toNat ≤ 64 by omega)
    omega
  have h7 := c7 ⟨ar, ac, al⟩ ua hla2
  rw [if_pos h, gr_eq] at h7
  have h10 := c10 [⟨ar, ac, al⟩] (by simp; exact ua) (by simp)
  have f1 : firstF [⟨ar, ac, al⟩] = 0 := by simp [firstF, h]
  rw [f1] at h10
  have h11 := c10 [⟨ar, ac, al⟩, ⟨br, bc, bl⟩] (by simp; exact ⟨ua, ub⟩) (by simp)
  have h12 := c10 [⟨ar, ac, al⟩, ⟨br, bc, bl⟩, ⟨cr, cc, cl⟩] (by simp; exact ⟨ua, ub, uc⟩) (by simp)
  have h16 := c16t _ (GN_gr al al.length)
  have f2 : firstF [⟨ar, ac, al⟩, ⟨br, bc, bl⟩] = 0 := by simp [firstF, h, h2]
  have f3 : firstF [⟨ar, ac, al⟩, ⟨br, bc, bl⟩, ⟨cr, cc, cl⟩] = finM ⟨cr, cc, cl⟩ := by
    by_cases h3 : finM ⟨cr, cc, cl⟩ = 0 <;> simp [firstF, h, h2, h3]
  have h9 := c9 _ _ ua ub f2 e1
  rw [f2] at h11
  rw [f3] at h12
  have gP := GN_pN ⟨ar, ac, al⟩ ⟨br, bc, bl⟩
  have lP := pN_len ⟨ar, ac, al⟩ ⟨br, bc, bl⟩
  have h15 := p15 h h2 e1
  have hlb : bl.length ≤ 100000 := by
    obtain ⟨r1, r2, r3, r4, r5⟩ := fin_fits h2
    simp only at r1 r2 r3 r4 r5
    have := Nat.mul_le_mul (show br.toNat ≤ 64 by omega) (show bc.toNat ≤ 64 by omega)
    omega
  have lP2 : (pN ⟨ar, ac, al⟩ ⟨br, bc, bl⟩).length ≤ 100000 := by
    rw [lP]
    obtain ⟨r1, r2, r3, r4, r5⟩ := fin_fits h
    obtain ⟨s1, s2, s3, s4, s5⟩ := fin_fits h2
    simp only at r1 r2 r3 r4 r5 s1 s2 s3 s4 s5 ⊢
    have := Nat.mul_le_mul (show ar.toNat ≤ 64 by omega) (show bc.toNat ≤ 64 by omega)
    omega
  obtain ⟨f, h8, h17, h18⟩ : ∃ f : Int, D E 8 [encM ⟨ar, ac, al⟩, encM ⟨br, bc, bl⟩, encM ⟨cr, cc, cl⟩] = some (.tup [encN zN, .int .i64 f]) ∧ (D E 16 [encN zN, .int .i64 f, .int .i64 (finM ⟨cr, cc, cl⟩), .bool false, encN zN] = some (.bool true)) ∧ (cr = ar ∧ cc = bc → finM ⟨cr, cc, cl⟩ ≠ 0 ∧ D E 16 [encN zN, .int .i64 f, .int .i64 (finM ⟨cr, cc, cl⟩), .bool true, encN zN] = some (.bool true)) := by
    by_cases h4 : finM ⟨cr, cc, cl⟩ = 0
    · have h5 : ¬ (cr = ar ∧ cc = bc) := fun e => h3 ⟨h4, e⟩
      refine ⟨11, c8o _ _ _ ua ub uc (by rw [f3]; exact h4) (fun x => h5 ⟨x.2.1, x.2.2⟩), ?_, fun e => absurd e h5⟩
      rw [h4]
      exact c16o zN
    · refine ⟨finM ⟨cr, cc, cl⟩, ?_, c16f _ h4 false zN, fun _ => ⟨h4, c16f _ h4 true zN⟩⟩
      have := c8e _ _ ⟨cr, cc, cl⟩ ua ub uc (by rw [f3]; exact h4)
      rw [f3] at this
      exact this
  simp only at e1
  subst e1
  have h14a := c14 ar ac al hla2
  have h14b := c14 ac bc bl hlb
  generalize pN ⟨ar, ac, al⟩ ⟨ac, bc, bl⟩ = Pl at h9 h15 gP lP2
  generalize finM ⟨cr, cc, cl⟩ = e at h12 h17 h18
  clear f1 f2 f3 ua ub uc h h2 h3 lP
  simp only [List.map_cons, List.map_nil, encM, mat, encN, enc, zN] at h7 h8 h9 h10 h11 h12 h16 h17 h18
  simp only [mat, grd, encN, enc] at h14a h14b h15
  unfold encM mat
  by_cases e2 : cr = ar
  · by_cases e3 : cc = bc
    · obtain ⟨h3, h19⟩ := h18 ⟨e2, e3⟩
      subst e2
      subst e3
      clear h18
      simp [-List.map_map, ir3, h6, h7, h8, h9, h10, h11, h12]
      refine Wp_loopS _ _ (fun s : Nat × Bool => [(18, .int .i64 s.1), (198, .bool (grU al s.1).n), (199, lv s.2 (grU al s.1).l), (200, .int .i64 (grU al s.1).x)]) (fun s => s.1 ≤ al.length ∧ (s.2 = true ↔ s.1 = 0)) (fun s => al.length - s.1) (0, true) ⟨by simp, by simp⟩ (by simp [lv, grU, zN]) ?_
      rintro ⟨k, q⟩ ⟨hk0, hq⟩
      simp only at hk0 hq
      by_cases hk : k < al.length
      · have hkn : (k : Int) < (al.length : Int) := by omega
        have hkw : IntKind.i64.wrap ((k : Int) + 1) = (k : Int) + 1 := wrap_id (by omega) (by omega)
        have a1 := c12 (al[k]'hk)
        have a2 := c11 (GN_gr al k) (ofW_G (al[k]'hk))
        have hs : grU al (k + 1) = mostL (grU al k) (ofW (al[k]'hk)) := by
          rw [grU, List.getD_eq_getElem?_getD, List.getElem?_eq_getElem hk]; rfl
        cases q with
        | true =>
          have hk1 : k = 0 := hq.1 rfl
          subst hk1
          have f0 : grU al 0 = zN := rfl
          rw [f0] at a2 hs
          simp only [encN, enc, zN] at a1 a2 hs
          simp at a2
          simp [hkn, hk, lv, a1, a2, f0, zN, encN, enc]
          refine nxt_i _ ((1 : Nat), false) ⟨hk, by simp⟩ (by show al.length - 1 < al.length - 0; omega) ?_
          simp [lv, hs]
        | false =>
          simp only [encN, enc] at a1 a2
          simp [hkn, hk, lv, a1, a2, hkw, encN, enc]
          refine nxt_i _ (k + 1, false) ⟨hk, by simp⟩ (by show al.length - (k + 1) < al.length - k; omega) ?_
          simp [lv, hs]
      · have hkn : ¬ (k : Int) < (al.length : Int) := by omega
        have hke : k = al.length := by omega
        have hqf : q = false := by
          cases q with
          | true => have := hq.1 rfl; omega
          | false => rfl
        subst hqf
        subst hke
        simp [-List.map_map, hkn, lv, h14a, h14b, h15, h16, h19, h3]
        refine Wp_loopS _ _ (fun i : Nat => [(22, .int .i64 i)]) (fun i => i ≤ Pl.length) (fun i => Pl.length - i) 0 (by omega) (by simp) ?_
        intro i hi0
        by_cases hi : i < Pl.length
        · have hin : (i : Int) < (Pl.length : Int) := by omega
          have hin2 : ¬ (Pl.length : Int) ≤ (i : Int) := by omega
          have hiw : IntKind.i64.wrap ((i : Int) + 1) = (i : Int) + 1 := wrap_id (by omega) (by omega)
          have a3 := c17 (Pl[i]'hi) (gP _ (List.getElem_mem hi))
          simp only [encN, enc] at a3
          simp [hi, hin, hin2, a3, hiw, encN, enc]
          refine nxt_i _ (i + 1) hi (by omega) ?_
          simp
        · have hin : ¬ (i : Int) < (Pl.length : Int) := by omega
          simp [hin]
    · clear h18
      have e4 : (cc == bc) = false := by simpa using e3
      subst e2
      simp [-List.map_map, ir3, h6, h7, h8, h9, h10, h11, h12]
      refine Wp_loopS _ _ (fun s : Nat × Bool => [(18, .int .i64 s.1), (198, .bool (grU al s.1).n), (199, lv s.2 (grU al s.1).l), (200, .int .i64 (grU al s.1).x)]) (fun s => s.1 ≤ al.length ∧ (s.2 = true ↔ s.1 = 0)) (fun s => al.length - s.1) (0, true) ⟨by simp, by simp⟩ (by simp [lv, grU, zN]) ?_
      rintro ⟨k, q⟩ ⟨hk0, hq⟩
      simp only at hk0 hq
      by_cases hk : k < al.length
      · have hkn : (k : Int) < (al.length : Int) := by omega
        have hkw : IntKind.i64.wrap ((k : Int) + 1) = (k : Int) + 1 := wrap_id (by omega) (by omega)
        have a1 := c12 (al[k]'hk)
        have a2 := c11 (GN_gr al k) (ofW_G (al[k]'hk))
        have hs : grU al (k + 1) = mostL (grU al k) (ofW (al[k]'hk)) := by
          rw [grU, List.getD_eq_getElem?_getD, List.getElem?_eq_getElem hk]; rfl
        cases q with
        | true =>
          have hk1 : k = 0 := hq.1 rfl
          subst hk1
          have f0 : grU al 0 = zN := rfl
          rw [f0] at a2 hs
          simp only [encN, enc, zN] at a1 a2 hs
          simp at a2
          simp [hkn, hk, lv, a1, a2, f0, zN, encN, enc]
          refine nxt_i _ ((1 : Nat), false) ⟨hk, by simp⟩ (by show al.length - 1 < al.length - 0; omega) ?_
          simp [lv, hs]
        | false =>
          simp only [encN, enc] at a1 a2
          simp [hkn, hk, lv, a1, a2, hkw, encN, enc]
          refine nxt_i _ (k + 1, false) ⟨hk, by simp⟩ (by show al.length - (k + 1) < al.length - k; omega) ?_
          simp [lv, hs]
      · have hkn : ¬ (k : Int) < (al.length : Int) := by omega
        have hke : k = al.length := by omega
        have hqf : q = false := by
          cases q with
          | true => have := hq.1 rfl; omega
          | false => rfl
        subst hqf
        subst hke
        by_cases h3 : e = 0
        · subst h3
          simp [-List.map_map, hkn, lv, h14a, h14b, h15, h16, h17, e3, e4]
          refine Wp_loopS _ _ (fun i : Nat => [(22, .int .i64 i)]) (fun i => i ≤ Pl.length) (fun i => Pl.length - i) 0 (by omega) (by simp) ?_
          intro i hi0
          by_cases hi : i < Pl.length
          · have hin : (i : Int) < (Pl.length : Int) := by omega
            have hin2 : ¬ (Pl.length : Int) ≤ (i : Int) := by omega
            have hiw : IntKind.i64.wrap ((i : Int) + 1) = (i : Int) + 1 := wrap_id (by omega) (by omega)
            have a3 := c17 (Pl[i]'hi) (gP _ (List.getElem_mem hi))
            simp only [encN, enc] at a3
            simp [hi, hin, hin2, a3, hiw, encN, enc]
            refine nxt_i _ (i + 1) hi (by omega) ?_
            simp
          · have hin : ¬ (i : Int) < (Pl.length : Int) := by omega
            simp [hin]
        · simp [-List.map_map, hkn, lv, h14a, h14b, h15, h16, h17, e3, e4, h3]
          refine Wp_loopS _ _ (fun i : Nat => [(22, .int .i64 i)]) (fun i => i ≤ Pl.length) (fun i => Pl.length - i) 0 (by omega) (by simp) ?_
          intro i hi0
          by_cases hi : i < Pl.length
          · have hin : (i : Int) < (Pl.length : Int) := by omega
            have hin2 : ¬ (Pl.length : Int) ≤ (i : Int) := by omega
            have hiw : IntKind.i64.wrap ((i : Int) + 1) = (i : Int) + 1 := wrap_id (by omega) (by omega)
            have a3 := c17 (Pl[i]'hi) (gP _ (List.getElem_mem hi))
            simp only [encN, enc] at a3
            simp [hi, hin, hin2, a3, hiw, encN, enc]
            refine nxt_i _ (i + 1) hi (by omega) ?_
            simp
          · have hin : ¬ (i : Int) < (Pl.length : Int) := by omega
            simp [hin]
  · clear h18
    simp [-List.map_map, ir3, h6, h7, h8, h9, h10, h11, h12]
    refine Wp_loopS _ _ (fun s : Nat × Bool => [(18, .int .i64 s.1), (198, .bool (grU al s.1).n), (199, lv s.2 (grU al s.1).l), (200, .int .i64 (grU al s.1).x)]) (fun s => s.1 ≤ al.length ∧ (s.2 = true ↔ s.1 = 0)) (fun s => al.length - s.1) (0, true) ⟨by simp, by simp⟩ (by simp [lv, grU, zN]) ?_
    rintro ⟨k, q⟩ ⟨hk0, hq⟩
    simp only at hk0 hq
    by_cases hk : k < al.length
    · have hkn : (k : Int) < (al.length : Int) := by omega
      have hkw : IntKind.i64.wrap ((k : Int) + 1) = (k : Int) + 1 := wrap_id (by omega) (by omega)
      have a1 := c12 (al[k]'hk)
      have a2 := c11 (GN_gr al k) (ofW_G (al[k]'hk))
      have hs : grU al (k + 1) = mostL (grU al k) (ofW (al[k]'hk)) := by
        rw [grU, List.getD_eq_getElem?_getD, List.getElem?_eq_getElem hk]; rfl
      cases q with
      | true =>
        have hk1 : k = 0 := hq.1 rfl
        subst hk1
        have f0 : grU al 0 = zN := rfl
        rw [f0] at a2 hs
        simp only [encN, enc, zN] at a1 a2 hs
        simp at a2
        simp [hkn, hk, lv, a1, a2, f0, zN, encN, enc]
        refine nxt_i _ ((1 : Nat), false) ⟨hk, by simp⟩ (by show al.length - 1 < al.length - 0; omega) ?_
        simp [lv, hs]
      | false =>
        simp only [encN, enc] at a1 a2
        simp [hkn, hk, lv, a1, a2, hkw, encN, enc]
        refine nxt_i _ (k + 1, false) ⟨hk, by simp⟩ (by show al.length - (k + 1) < al.length - k; omega) ?_
        simp [lv, hs]
    · have hkn : ¬ (k : Int) < (al.length : Int) := by omega
      have hke : k = al.length := by omega
      have hqf : q = false := by
        cases q with
        | true => have := hq.1 rfl; omega
        | false => rfl
      subst hqf
      subst hke
      by_cases h3 : e = 0
      · subst h3
        simp [-List.map_map, hkn, lv, h14a, h14b, h15, h16, h17, e2]
        refine Wp_loopS _ _ (fun i : Nat => [(22, .int .i64 i)]) (fun i => i ≤ Pl.length) (fun i => Pl.length - i) 0 (by omega) (by simp) ?_
        intro i hi0
        by_cases hi : i < Pl.length
        · have hin : (i : Int) < (Pl.length : Int) := by omega
          have hin2 : ¬ (Pl.length : Int) ≤ (i : Int) := by omega
          have hiw : IntKind.i64.wrap ((i : Int) + 1) = (i : Int) + 1 := wrap_id (by omega) (by omega)
          have a3 := c17 (Pl[i]'hi) (gP _ (List.getElem_mem hi))
          simp only [encN, enc] at a3
          simp [hi, hin, hin2, a3, hiw, encN, enc]
          refine nxt_i _ (i + 1) hi (by omega) ?_
          simp
        · have hin : ¬ (i : Int) < (Pl.length : Int) := by omega
          simp [hin]
      · simp [-List.map_map, hkn, lv, h14a, h14b, h15, h16, h17, e2, h3]
        refine Wp_loopS _ _ (fun i : Nat => [(22, .int .i64 i)]) (fun i => i ≤ Pl.length) (fun i => Pl.length - i) 0 (by omega) (by simp) ?_
        intro i hi0
        by_cases hi : i < Pl.length
        · have hin : (i : Int) < (Pl.length : Int) := by omega
          have hin2 : ¬ (Pl.length : Int) ≤ (i : Int) := by omega
          have hiw : IntKind.i64.wrap ((i : Int) + 1) = (i : Int) + 1 := wrap_id (by omega) (by omega)
          have a3 := c17 (Pl[i]'hi) (gP _ (List.getElem_mem hi))
          simp only [encN, enc] at a3
          simp [hi, hin, hin2, a3, hiw, encN, enc]
          refine nxt_i _ (i + 1) hi (by omega) ?_
          simp
        · have hin : ¬ (i : Int) < (Pl.length : Int) := by omega
          simp [hin]
theorem t3 (a b c : Mt) (ua : u64s a.l) (ub : u64s b.l) (uc : u64s c.l) : D E 3 [encM a, encM b, encM c] = some (.bool true) := by
  by_cases h : finM a = 0
  · by_cases h2 : finM b = 0
    · by_cases e1 : a.c = b.r
      · by_cases h3 : finM c = 0 ∧ c.r = a.r ∧ c.c = b.c
        · exact t3d a b c ua ub uc h h2 e1 h3.1 h3.2.1 h3.2.2
        · exact t3e a b c ua ub uc h h2 e1 h3
      · exact t3c a b c ua ub uc h h2 e1
    · exact t3b a b c ua ub uc h h2
  · exact t3a a b c ua ub uc h
end Go.Proofs.YtejmahnbecglfaaDoor.Den
