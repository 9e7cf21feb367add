/- The law: of what is finite, and fits. -/
import Derived.Test.YtejmahnbecglfaaDoorCL24

set_option linter.unusedVariables false
set_option linter.unusedSimpArgs false
namespace Go.Proofs.YtejmahnbecglfaaDoor.Den
open Go
open Go.Proofs.YtejmahnbecglfaaDoor.OwnA (u64s finF)
set_option maxRecDepth 10000
set_option maxHeartbeats 8000000
attribute [local simp] Ok_true Br_true Br_false rtV exec_none exec_some opV dstB dstW upd_nil upd_cons upd1_at args0_zero args0_succ args0_nil ev cellsV isDead notSelf allCell cellB shrL shr ownsL owns ownE elems frz noLst noLstL outV_ret outV_norm retV resL resV tupV nmL nm boolV isBoolV isSkV binV unV fillV chunk sizesB sizeV List.mapIdx_cons List.mapIdx_nil List.mapIdx List.mapIdx.go List.range List.range.loop List.map_cons List.map_nil Option.isSome_some Option.isSome_none Option.getD_some Option.map_some Option.bind_some Option.map_none Option.bind_none List.append_nil List.nil_append List.cons_append List.isEmpty_nil List.isEmpty_cons Bool.and_true Bool.true_and Bool.and_false Bool.false_and Bool.or_true Bool.or_false Bool.true_or Bool.false_or Bool.not_true Bool.not_false List.length_cons List.length_nil List.take List.drop List.getD_cons_zero List.getD_cons_succ List.getElem?_cons_zero List.getElem?_cons_succ List.replicate List.flatten Wp_skip Wp_exit Wp_ret Wp_kil Wp_reg Wi_nil Wi_cons Wp_seq Wp_cond Wp_block seqQ_norm seqQ_exit seqQ_ret blkQ_norm blkQ_exit blkQ_ret nrQ_norm nrQ_exit nrQ_ret lpQ_norm lpQ_exit lpQ_ret outQ_norm outQ_ret rgQ_at kilR kil1 kil kilL sets List.set_cons_zero List.set_cons_succ
attribute [local simp] wrap_id kil_lv
theorem GN_row {f : Nat → Num} (h : ∀ i, GN (f i)) : ∀ n, ∀ x ∈ rowN f n, GN x
  | 0, x, hx => by simp [rowN] at hx
  | n + 1, x, hx => by
    rw [rowN, List.mem_append] at hx
    rcases hx with hx | hx
    · exact GN_row h n x hx
    · simp only [List.mem_cons, List.not_mem_nil, or_false] at hx
      rw [hx]; exact h n
theorem GN_prod {f : Nat → Nat → Num} (h : ∀ i j, GN (f i j)) (m : Nat) : ∀ n, ∀ x ∈ prodN f m n, GN x
  | 0, x, hx => by simp [prodN] at hx
  | n + 1, x, hx => by
    rw [prodN, List.mem_append] at hx
    rcases hx with hx | hx
    · exact GN_prod h m n x hx
    · exact GN_row (h n) m x hx
theorem GN_pN (a b : Mt) : ∀ x ∈ pN a b, GN x := GN_prod (fun i j => GN_dot (fun k => GN_gat (GN_ofs _) _ _) (fun k => GN_gat (GN_ofs _) _ _) _) _ _
theorem pN_len (a b : Mt) : (pN a b).length = a.r.toNat * b.c.toNat := prodN_len _ _ _
/-- the law's product -/
theorem p15 {a b : Mt} (ha : finM a = 0) (hb : finM b = 0) (hf : a.c = b.r) : D E 15 [grd a.r a.c (a.l.map ofW), grd a.c b.c (b.l.map ofW)] = some (grd a.r b.c (pN a b)) := by
  obtain ⟨a1, a2, a3, a4, a5⟩ := fin_fits ha
  obtain ⟨b1, b2, b3, b4, b5⟩ := fin_fits hb
  have := c15 a.r.toNat a.c.toNat b.c.toNat (a.l.map ofW) (b.l.map ofW) (GN_ofs _) (GN_ofs _) (by omega) (by omega) (by omega) (by omega) (by rw [List.length_map]; exact a5) (by rw [List.length_map, hf]; exact b5)
  rw [Int.toNat_of_nonneg (by omega), Int.toNat_of_nonneg (by omega), Int.toNat_of_nonneg (by omega)] at this
  rw [this]
  unfold pN
  rw [hf, Int.toNat_of_nonneg (show 0 ≤ a.r by omega), Int.toNat_of_nonneg (show 0 ≤ b.r by omega), Int.toNat_of_nonneg (show 0 ≤ b.c by omega)]
theorem t3d (a b c : Mt) (ua : u64s a.l) (ub : u64s b.l) (uc : u64s c.l) (h : finM a = 0) (h2 : finM b = 0) (e1 : a.c = b.r) (h3 : finM c = 0) (e2 : c.r = a.r) (e3 : c.c = b.c) :
    D E 3 [encM a, encM b, encM c] = some (.bool true) := by
  refine wpE (F := ir3) (by kernel_rfl) (by kernel_rfl) ?_
  have h6 := c6
  obtain ⟨ar, ac, al⟩ := a
  obtain ⟨br, bc, bl⟩ := b
  obtain ⟨cr, cc, cl⟩ := c
  have hla : 1 ≤ al.length := by
    have := fin_fits h
    obtain ⟨r1, r2, r3, r4, r5⟩ := this
    simp only at r1 r2 r3 r4 r5
    rw [r5]
    exact Nat.mul_pos (show 0 < ar.toNat by omega) (show 0 < ac.toNat by omega)
  have hla2 : al.length ≤ 100000 := by
    obtain ⟨r1, r2, r3, r4, r5⟩ := fin_fits h
    simp only at r1 r2 r3 r4 r5
    have := Nat.mul_le_mul (show ar.toNat ≤ 64 by omega) (show ac.toNat ≤ 64 by omega)
    omega
  have h7 := c7 ⟨ar, ac, al⟩ ua hla2
  rw [if_pos h, gr_eq] at h7
  have h10 := c10 [⟨ar, ac, al⟩] (by simp; exact ua) (by simp)
  have f1 : firstF [⟨ar, ac, al⟩] = 0 := by simp [firstF, h]
  rw [f1] at h10
  have h11 := c10 [⟨ar, ac, al⟩, ⟨br, bc, bl⟩] (by simp; exact ⟨ua, ub⟩) (by simp)
  have h12 := c10 [⟨ar, ac, al⟩, ⟨br, bc, bl⟩, ⟨cr, cc, cl⟩] (by simp; exact ⟨ua, ub, uc⟩) (by simp)
  have h16 := c16t _ (GN_gr al al.length)
  have f2 : firstF [⟨ar, ac, al⟩, ⟨br, bc, bl⟩] = 0 := by simp [firstF, h, h2]
  have f3 : firstF [⟨ar, ac, al⟩, ⟨br, bc, bl⟩, ⟨cr, cc, cl⟩] = 0 := by simp [firstF, h, h2, h3]
  have h9 := c9 _ _ ua ub f2 e1
  rw [f2] at h11
  rw [f3] at h12
  have gP := GN_pN ⟨ar, ac, al⟩ ⟨br, bc, bl⟩
  have lP := pN_len ⟨ar, ac, al⟩ ⟨br, bc, bl⟩
  have hP : (cl.map ofW).length = (pN ⟨ar, ac, al⟩ ⟨br, bc, bl⟩).length := by
    rw [lP, List.length_map]
    obtain ⟨_, _, _, _, r5⟩ := fin_fits h3
    simp only at r5 e2 e3 ⊢
    rw [r5, e2, e3]
  have h8 := c8t _ _ ⟨cr, cc, cl⟩ ua ub uc f3 e1 e2 e3 gP hP
  rw [far_eq (GN_ofs _) gP hP] at h8
  have h15 := p15 h h2 e1
  have hlb : bl.length ≤ 100000 := by
    obtain ⟨r1, r2, r3, r4, r5⟩ := fin_fits h2
    simp only at r1 r2 r3 r4 r5
    have := Nat.mul_le_mul (show br.toNat ≤ 64 by omega) (show bc.toNat ≤ 64 by omega)
    omega
  have hlc : cl.length ≤ 100000 := by
    obtain ⟨r1, r2, r3, r4, r5⟩ := fin_fits h3
    simp only at r1 r2 r3 r4 r5
    have := Nat.mul_le_mul (show cr.toNat ≤ 64 by omega) (show cc.toNat ≤ 64 by omega)
    omega
  have lP2 : (pN ⟨ar, ac, al⟩ ⟨br, bc, bl⟩).length ≤ 100000 := by rw [← hP, List.length_map]; exact hlc
  simp only at e1 e2 e3
  subst e1
  subst e2
  subst e3
  have h14a := c14 cr ac al hla2
  have h14b := c14 ac cc bl hlb
  have h14c := c14 cr cc cl hlc
  have h13 := c13 cr cc cr cc _ _ (GN_ofs cl) gP (by rw [List.length_map]; exact hlc) hP
  have h19 := c16t _ (GN_far (GN_ofs cl) gP (cl.map ofW).length)
  generalize pN ⟨cr, ac, al⟩ ⟨ac, cc, bl⟩ = Pl at h8 h9 h13 h15 h19 gP lP2
  generalize farU (cl.map ofW) Pl (cl.map ofW).length = Fr at h8 h13 h19
  clear f1 f2 f3 ua ub uc h h2 h3 lP hP
  simp only [List.map_cons, List.map_nil, encM, mat, encN, enc, zN] at h7 h8 h9 h10 h11 h12 h16 h19
  simp only [mat, grd, encN, enc] at h13 h14a h14b h14c h15
  unfold encM mat
  simp [-List.map_map, ir3, h6, h7, h8, h9, h10, h11, h12]
  refine Wp_loopS _ _ (fun s : Nat × Bool => [(18, .int .i64 s.1), (198, .bool (grU al s.1).n), (199, lv s.2 (grU al s.1).l), (200, .int .i64 (grU al s.1).x)]) (fun s => s.1 ≤ al.length ∧ (s.2 = true ↔ s.1 = 0)) (fun s => al.length - s.1) (0, true) ⟨by simp, by simp⟩ (by simp [lv, grU, zN]) ?_
  rintro ⟨k, q⟩ ⟨hk0, hq⟩
  simp only at hk0 hq
  by_cases hk : k < al.length
  · have hkn : (k : Int) < (al.length : Int) := by omega
    have hkw : IntKind.i64.wrap ((k : Int) + 1) = (k : Int) + 1 := wrap_id (by omega) (by omega)
    have a1 := c12 (al[k]'hk)
    have a2 := c11 (GN_gr al k) (ofW_G (al[k]'hk))
    have hs : grU al (k + 1) = mostL (grU al k) (ofW (al[k]'hk)) := by
      rw [grU, List.getD_eq_getElem?_getD, List.getElem?_eq_getElem hk]; rfl
    cases q with
    | true =>
      have hk1 : k = 0 := hq.1 rfl
      subst hk1
      have f0 : grU al 0 = zN := rfl
      rw [f0] at a2 hs
      simp only [encN, enc, zN] at a1 a2 hs
      simp at a2
      simp [hkn, hk, lv, a1, a2, f0, zN, encN, enc]
      refine nxt_i _ ((1 : Nat), false) ⟨hk, by simp⟩ (by show al.length - 1 < al.length - 0; omega) ?_
      simp [lv, hs]
    | false =>
      simp only [encN, enc] at a1 a2
      simp [hkn, hk, lv, a1, a2, hkw, encN, enc]
      refine nxt_i _ (k + 1, false) ⟨hk, by simp⟩ (by show al.length - (k + 1) < al.length - k; omega) ?_
      simp [lv, hs]
  · have hkn : ¬ (k : Int) < (al.length : Int) := by omega
    have hke : k = al.length := by omega
    have hqf : q = false := by
      cases q with
      | true => have := hq.1 rfl; omega
      | false => rfl
    subst hqf
    subst hke
    simp [-List.map_map, hkn, lv, h13, h14a, h14b, h14c, h15, h16, h19]
    refine Wp_loopS _ _ (fun i : Nat => [(22, .int .i64 i)]) (fun i => i ≤ Pl.length) (fun i => Pl.length - i) 0 (by omega) (by simp) ?_
    intro i hi0
    by_cases hi : i < Pl.length
    · have hin : (i : Int) < (Pl.length : Int) := by omega
      have hin2 : ¬ (Pl.length : Int) ≤ (i : Int) := by omega
      have hiw : IntKind.i64.wrap ((i : Int) + 1) = (i : Int) + 1 := wrap_id (by omega) (by omega)
      have a3 := c17 (Pl[i]'hi) (gP _ (List.getElem_mem hi))
      simp only [encN, enc] at a3
      simp [hi, hin, hin2, a3, hiw, encN, enc]
      refine nxt_i _ (i + 1) hi (by omega) ?_
      simp
    · have hin : ¬ (i : Int) < (Pl.length : Int) := by omega
      simp [hin]
end Go.Proofs.YtejmahnbecglfaaDoor.Den
