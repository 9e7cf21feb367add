/- Pairs of bounds: the greatest, of many products, of the seven parts. -/
import Derived.Test.YtmbdbkcifmkpbaaGreatDoorCM4

set_option linter.unusedVariables false
set_option linter.unusedSimpArgs false
namespace Go.Proofs.YtmbdbkcifmkpbaaGreatDoor.Den
open Go
open Go.Proofs.YtmbdbkcifmkpbaaGreatDoor.OwnA (u64s normF toldF addF)
set_option maxRecDepth 10000
set_option maxHeartbeats 16000000
attribute [local simp] Ok_true Br_true Br_false rtV exec_none exec_some opV dstB dstW upd_nil upd_cons upd1_at args0_zero args0_succ args0_nil ev cellsV isDead notSelf allCell cellB shrL shr ownsL owns ownE elems frz noLst noLstL outV_ret outV_norm retV resL resV tupV nmL nm boolV isBoolV isSkV binV unV fillV chunk sizesB sizeV List.mapIdx_cons List.mapIdx_nil List.mapIdx List.mapIdx.go List.range List.range.loop List.map_cons List.map_nil Option.isSome_some Option.isSome_none Option.getD_some Option.map_some Option.bind_some Option.map_none Option.bind_none List.append_nil List.nil_append List.cons_append List.isEmpty_nil List.isEmpty_cons Bool.and_true Bool.true_and Bool.and_false Bool.false_and Bool.or_true Bool.or_false Bool.true_or Bool.false_or Bool.not_true Bool.not_false List.length_cons List.length_nil List.take List.drop List.getD_cons_zero List.getD_cons_succ List.getElem?_cons_zero List.getElem?_cons_succ List.replicate List.flatten Wp_skip Wp_exit Wp_ret Wp_kil Wp_reg Wp_dfr Wi_nil Wi_cons Wp_seq Wp_cond Wp_block seqQ_norm seqQ_exit seqQ_ret blkQ_norm blkQ_exit blkQ_ret nrQ_norm nrQ_exit nrQ_ret lpQ_norm lpQ_exit lpQ_ret outQ_norm outQ_ret rgQ_at kilR kil1 kil kilL sets List.set_cons_zero List.set_cons_succ kilR0 frzd isFz ren renL frV frQ_norm frQ_ret retFr shrF shrFL arrV1
attribute [local simp] wrap_id
def mst (a b : Num) : Num := if cmpN a b < 0 then b else a
theorem mst_G {a b : Num} (ha : GN a) (hb : GN b) : GN (mst a b) := by unfold mst; split <;> assumption
theorem mst_IV {lo hi : Int} {a b : Num} (ha : IV lo hi a) (hb : IV lo hi b) : IV lo hi (mst a b) := by unfold mst; split <;> assumption
theorem b86 {a b : Num} (ha : GN a) (hb : GN b) : D E 86 [encN a, .lst [encN b]] = some (encN (mst a b)) := by
  have := q86 a [b] (fun k => if k = 0 then a else mst a b) (by simp) (fun k => by show GN (if k = 0 then a else mst a b); split; exact ha; exact mst_G ha hb) (by simp; exact hb) (fun k hk => by
    have : k = 0 := by simp at hk; omega
    subst this
    simp [mst]) (by simp)
  simpa using this
def mE (e : Num) (L : List (Num × Num)) (k : Nat) : Num := (L.take k).foldl (fun a p => mst a p.1) e
def mG (g : Num) (L : List (Num × Num)) (k : Nat) : Num := (L.take k).foldl (fun a p => mst a p.2) g
theorem fold_mst {P : Num → Prop} (hm : ∀ a b, P a → P b → P (mst a b)) (f : Num × Num → Num) : ∀ (l : List (Num × Num)) (a : Num), P a → (∀ p ∈ l, P (f p)) → P (l.foldl (fun a p => mst a (f p)) a)
  | [], a, ha, _ => ha
  | p :: l, a, ha, hl => fold_mst hm f l _ (hm _ _ ha (hl p (List.mem_cons_self ..))) (fun q hq => hl q (List.mem_cons_of_mem _ hq))
theorem b60 (e g : Num) (L : List (Num × Num)) (hE : GN e) (hG : GN g) (hL : ∀ p ∈ L, GN p.1 ∧ GN p.2) (hl : L.length ≤ 100) : D E 60 [encP e g, .lst (L.map fun p => encP p.1 p.2)] = some (encP (mE e L L.length) (mG g L L.length)) := by
  have gE : ∀ k, GN (mE e L k) := fun k => fold_mst (fun a b => mst_G) (fun p => p.1) _ _ hE (fun p hp => (hL p (List.mem_of_mem_take hp)).1)
  have gG : ∀ k, GN (mG g L k) := fun k => fold_mst (fun a b => mst_G) (fun p => p.2) _ _ hG (fun p hp => (hL p (List.mem_of_mem_take hp)).2)
  have e0 : mE e L 0 = e := by simp [mE]
  have g0 : mG g L 0 = g := by simp [mG]
  obtain ⟨EE, hEE⟩ : ∃ EE : Nat → Num, EE = mE e L := ⟨_, rfl⟩
  obtain ⟨GG, hGG⟩ : ∃ GG : Nat → Num, GG = mG g L := ⟨_, rfl⟩
  have sE : ∀ i (h : i < L.length), EE (i + 1) = mst (EE i) (L[i]'h).1 := fun i h => by
    rw [hEE]; unfold mE
    rw [List.take_add_one, List.getElem?_eq_getElem h, List.foldl_append]; rfl
  have sG : ∀ i (h : i < L.length), GG (i + 1) = mst (GG i) (L[i]'h).2 := fun i h => by
    rw [hGG]; unfold mG
    rw [List.take_add_one, List.getElem?_eq_getElem h, List.foldl_append]; rfl
  rw [← hEE] at gE e0 ⊢
  rw [← hGG] at gG g0 ⊢
  clear hEE hGG
  rw [← e0, ← g0]
  refine wpE (F := ir60) (by kernel_rfl) (by kernel_rfl) ?_
  unfold encP
  simp [ir60]
  refine Wp_loopS _ _ (fun i : Nat => [(9, .int .i64 i), (28, .bool (EE i).n), (29, .lst ((EE i).l.map (V.int .u64))), (30, .int .i64 (EE i).x), (31, .bool (GG i).n), (32, .lst ((GG i).l.map (V.int .u64))), (33, .int .i64 (GG i).x)]) (fun i => i ≤ L.length) (fun i => L.length - i) 0 (Nat.zero_le _) (by simp) ?_
  intro i hi0
  by_cases hi : i < L.length
  · have hn : (i : Int) < (L.length : Int) := by omega
    have hw : IntKind.i64.wrap ((i : Int) + 1) = (i : Int) + 1 := wrap_id (by omega) (by omega)
    have q := hL _ (List.getElem_mem hi)
    have h1 := b86 (gE i) q.1
    have h2 := b86 (gG i) q.2
    rw [← sE i hi] at h1
    rw [← sG i hi] at h2
    simp only [encN, enc] at h1 h2
    simp [hn, hi, hw, h1, h2]
    refine nxt_i _ (i + 1) hi (by show L.length - (i + 1) < L.length - i; omega) ?_
    simp
  · have hn : ¬ (i : Int) < (L.length : Int) := by omega
    have hie : i = L.length := by omega
    rw [hie] at hn ⊢
    simp [hn]
theorem most_ok {le he lg hg : Int} {e g : Num} {L : List (Num × Num)} (hE : IV le he e) (hG : IV lg hg g) (hL : ∀ p ∈ L, IV le he p.1 ∧ IV lg hg p.2) (hl : L.length ≤ 100) (h0 : -16384 ≤ le := by omega) (h1 : he ≤ 16384 := by omega) (g0 : -16384 ≤ lg := by omega) (g1 : hg ≤ 16384 := by omega) :
    ∃ e' g', D E 60 [encP e g, .lst (L.map fun p => encP p.1 p.2)] = some (encP e' g') ∧ IV le he e' ∧ IV lg hg g' := by
  refine ⟨_, _, b60 e g L (IV_G hE h0 h1) (IV_G hG g0 g1) (fun p hp => ⟨IV_G (hL p hp).1 h0 h1, IV_G (hL p hp).2 g0 g1⟩) hl, ?_, ?_⟩
  · exact fold_mst (fun a b => mst_IV) (fun p => p.1) _ _ hE (fun p hp => (hL p (List.mem_of_mem_take hp)).1)
  · exact fold_mst (fun a b => mst_IV) (fun p => p.2) _ _ hG (fun p hp => (hL p (List.mem_of_mem_take hp)).2)
/-- a chain of what exists, one after another -/
theorem chain {α : Type} (N : Nat) (P : Nat → α → Prop) (R : Nat → α → α → Prop) (a0 : α) (h0 : P 0 a0) (h : ∀ n a, n < N → P n a → ∃ b, R n a b ∧ P (n + 1) b) :
    ∃ F : Nat → α, F 0 = a0 ∧ (∀ n, n ≤ N → P n (F n)) ∧ ∀ n, n < N → R n (F n) (F (n + 1)) := by
  classical
  let F : Nat → α := fun n => Nat.rec a0 (fun n a => if hh : n < N ∧ P n a then (h n a hh.1 hh.2).choose else a) n
  have hP : ∀ n, n ≤ N → P n (F n) := by
    intro n
    induction n with
    | zero => intro _; exact h0
    | succ n ih =>
      intro hn
      have hp := ih (by omega)
      have e : F (n + 1) = if hh : n < N ∧ P n (F n) then (h n (F n) hh.1 hh.2).choose else F n := rfl
      rw [e, dif_pos ⟨by omega, hp⟩]
      exact (h n (F n) (by omega) hp).choose_spec.2
  refine ⟨F, rfl, hP, fun n hn => ?_⟩
  have hp := hP n (by omega)
  have e : F (n + 1) = if hh : n < N ∧ P n (F n) then (h n (F n) hh.1 hh.2).choose else F n := rfl
  rw [e, dif_pos ⟨hn, hp⟩]
  exact (h n (F n) hn hp).choose_spec.1
/-- of so many products -/
theorem b73 (k : Nat) (k0 : 1 ≤ k) (k1 : k ≤ 64) : ∃ e g, D E 73 [.int .i64 k] = some (encP e g) ∧ IV (-3400) 800 e ∧ IV (-4500) 800 g := by
  obtain ⟨F, f0, fP, fR⟩ := chain (k - 1) (fun n (p : Num × Num) => IV (-53 - 53 * n) (7 + 12 * n) p.1 ∧ IV (-1075 - 53 * n) (7 + 12 * n) p.2)
    (fun n p q => D E 75 [encP p.1 p.2, .int .i64 ((n + 1 : Nat) : Int)] = some (encP q.1 q.2)) (ofN 1 (-53), ofN 1 (-1075)) ⟨f_e, f_g⟩ (fun n p hn hp => by
      obtain ⟨e', g', h1, h2, h3⟩ := b75 (n := ((n + 1 : Nat) : Int)) hp.1 hp.2 (by omega) (by omega)
      exact ⟨(e', g'), h1, h2.mono (by omega) (by omega), h3.mono (by omega) (by omega)⟩)
  have hlast := fP (k - 1) (Nat.le_refl _)
  obtain ⟨e, g, u1, u2, u3⟩ := b62 hlast.1 hlast.2
  refine ⟨e, g, ?_, u2.mono (by omega) (by omega), u3.mono (by omega) (by omega)⟩
  refine wpE (F := ir73) (by kernel_rfl) (by kernel_rfl) ?_
  have k0' := b59
  have hf : F 0 = (ofN 1 (-53), ofN 1 (-1075)) := f0
  rw [show ofN 1 (-53) = (F 0).1 by rw [hf], show ofN 1 (-1075) = (F 0).2 by rw [hf]] at k0'
  unfold encP at *
  simp [ir73, k0']
  refine Wp_loopS _ _ (fun i : Nat => [(4, .int .i64 ((i + 1 : Nat) : Int)), (22, .bool (F i).1.n), (23, .lst ((F i).1.l.map (V.int .u64))), (24, .int .i64 (F i).1.x), (25, .bool (F i).2.n), (26, .lst ((F i).2.l.map (V.int .u64))), (27, .int .i64 (F i).2.x)]) (fun i => i ≤ k - 1) (fun i => k - 1 - i) 0 (Nat.zero_le _) (by simp) ?_
  intro i hi0
  by_cases hi : i < k - 1
  · have hn : ((i + 1 : Nat) : Int) < (k : Int) := by omega
    have hw : IntKind.i64.wrap (((i + 1 : Nat) : Int) + 1) = ((i + 1 + 1 : Nat) : Int) := by rw [wrap_id (by omega) (by omega)]; omega
    have h1 := fR i hi
    obtain ⟨j, hj⟩ : ∃ j : Int, ((i + 1 : Nat) : Int) = j := ⟨_, rfl⟩
    rw [hj] at hn hw h1 ⊢
    simp [hn, hw, h1]
    refine nxt_i _ (i + 1) hi (by show k - 1 - (i + 1) < k - 1 - i; omega) ?_
    simp
  · have hn : ¬ ((i + 1 : Nat) : Int) < (k : Int) := by omega
    have hie : i = k - 1 := by omega
    obtain ⟨j, hj⟩ : ∃ j : Int, ((i + 1 : Nat) : Int) = j := ⟨_, rfl⟩
    rw [hj] at hn ⊢
    rw [← hie] at u1
    simp [hn, u1]
/-- of the seven parts -/
theorem b74 {le he lg hg k : Int} {e g : Num} (hE : IV le he e) (hG : IV lg hg g) (k0 : 0 ≤ k) (k1 : k ≤ 64) (h0 : -16384 ≤ le - 371) (h1 : he + 300 ≤ 16384) (hz : le ≤ 0) (hz2 : 7 ≤ he) (g0 : -16384 ≤ lg - 159) (g1 : hg + 300 ≤ 16384) (gz : lg ≤ 0) (gz2 : 0 ≤ hg) :
    ∃ e' g', D E 74 [.agg [.int .i64 k, .bool e.n, .lst (e.l.map (V.int .u64)), .int .i64 e.x, .bool g.n, .lst (g.l.map (V.int .u64)), .int .i64 g.x]] = some (encP e' g') ∧ IV (le - 371) (he + 110) e' ∧ IV (lg - 159) (hg + 36) g' := by
  have q1 := q58 1 0 (by omega) (by omega) (by omega) (by omega)
  have q0 := q58 0 0 (by omega) (by omega) (by omega) (by omega)
  have i1 : IV 0 7 (ofN 1 0) := of_IV (by omega) (by omega) (by omega) (by omega)
  have i0 : IV 0 7 (ofN 0 0) := of_IV (by omega) (by omega) (by omega) (by omega)
  obtain ⟨n1, e1, s1, a1, c1⟩ := b95 i1 i0 i1 i0
  obtain ⟨n2, e2, s2, a2, c2⟩ := b95 a1 c1 (i1.mono (by omega) (by omega)) (i0.mono (by omega) (by omega))
  obtain ⟨n4, e4, s4, a4, c4⟩ := b95 (i1.mono (lo' := -106) (hi' := 31) (by omega) (by omega)) (i0.mono (by omega) (by omega)) (a2.mono (by omega) (by omega)) (c2.mono (by omega) (by omega))
  obtain ⟨u1, v1, p1, x1, y1⟩ := b96 (k := k) i1 i0 i1 i0 hE hG k0 k1
  obtain ⟨u3, v3, p3, x3, y3⟩ := b96 (k := k) a4 c4 i1 i0 hE hG k0 k1
  obtain ⟨u5, v5, p5, x5, y5⟩ := b96 (k := k) a1 c1 a1 c1 hE hG k0 k1
  obtain ⟨u6, v6, p6, x6, y6⟩ := b96 (k := k) a2 c2 a2 c2 hE hG k0 k1
  obtain ⟨u7, v7, p7, x7, y7⟩ := b96 (k := k) i1 i0 a4 c4 hE hG k0 k1
  have X1 := x1.mono (lo' := le - 212) (hi' := he + 74) (by omega) (by omega)
  have Y1 := y1.mono (lo' := le - 212) (hi' := he + 74) (by omega) (by omega)
  have X3 := x3.mono (lo' := le - 212) (hi' := he + 74) (by omega) (by omega)
  have Y3 := y3.mono (lo' := le - 212) (hi' := he + 74) (by omega) (by omega)
  have X5 := x5.mono (lo' := le - 212) (hi' := he + 74) (by omega) (by omega)
  have Y5 := y5.mono (lo' := le - 212) (hi' := he + 74) (by omega) (by omega)
  have X6 := x6.mono (lo' := le - 212) (hi' := he + 74) (by omega) (by omega)
  have Y6 := y6.mono (lo' := le - 212) (hi' := he + 74) (by omega) (by omega)
  have X7 := x7.mono (lo' := le - 212) (hi' := he + 74) (by omega) (by omega)
  have Y7 := y7.mono (lo' := le - 212) (hi' := he + 74) (by omega) (by omega)
  clear x1 y1 x3 y3 x5 y5 x6 y6 x7 y7
  obtain ⟨ua, va, ga, pa, xa, ya, za⟩ := b97 X1 Y1 hG X6 Y6 hG
  obtain ⟨ub, vb, gb, pb, xb, yb, zb⟩ := b97 xa ya za (X5.mono (by omega) (by omega)) (Y5.mono (by omega) (by omega)) (hG.mono (by omega) (by omega))
  obtain ⟨uc, vc, gc, pc, xc, yc, zc⟩ := b97 X1 Y1 hG X1 Y1 hG
  obtain ⟨ud, vd, gd, pd, xd, yd, zd⟩ := b97 xb yb zb (X3.mono (by omega) (by omega)) (Y3.mono (by omega) (by omega)) (hG.mono (by omega) (by omega))
  obtain ⟨ue, ve, ge, pe, xe, ye, ze⟩ := b97 xb yb zb (X7.mono (by omega) (by omega)) (Y7.mono (by omega) (by omega)) (hG.mono (by omega) (by omega))
  obtain ⟨uf, vf, gf, pf, xf, yf, zf⟩ := b97 xb yb zb (X5.mono (by omega) (by omega)) (Y5.mono (by omega) (by omega)) (hG.mono (by omega) (by omega))
  obtain ⟨e', g', pm, m1, m2⟩ := most_ok (le := le - 371) (he := he + 110) (lg := lg - 159) (hg := hg + 36) (L := [(vd, gd), (ve, ge), (vf, gf)]) (yc.mono (by omega) (by omega)) (zc.mono (by omega) (by omega)) (by
    intro p hp
    simp only [List.mem_cons, List.not_mem_nil, or_false] at hp
    rcases hp with rfl | rfl | rfl
    · exact ⟨yd.mono (by omega) (by omega), zd.mono (by omega) (by omega)⟩
    · exact ⟨ye.mono (by omega) (by omega), ze.mono (by omega) (by omega)⟩
    · exact ⟨yf.mono (by omega) (by omega), zf.mono (by omega) (by omega)⟩) (by simp)
  refine ⟨e', g', ?_, m1, m2⟩
  clear i1 i0 a1 c1 a2 c2 a4 c4 X1 Y1 X3 Y3 X5 Y5 X6 Y6 X7 Y7 xa ya za xb yb zb xc yc zc xd yd zd xe ye ze xf yf zf m1 m2 hE hG
  refine wpE (F := ir74) (by kernel_rfl) (by kernel_rfl) ?_
  simp only [List.map_cons, List.map_nil] at pm
  unfold encN enc at *
  unfold encP encT at *
  simp (maxSteps := 4000000) [ir74, q0, q1, s1, s2, s4, p1, p3, p5, p6, p7, pa, pb, pc, pd, pe, pf, pm]
end Go.Proofs.YtmbdbkcifmkpbaaGreatDoor.Den
