/- Certificates: of products, two triangles, squares. -/
import Derived.Test.YtmbdbkcifmkpbaaGreatDoorCM9

set_option linter.unusedVariables false
set_option linter.unusedSimpArgs false
namespace Go.Proofs.YtmbdbkcifmkpbaaGreatDoor.Den
open Go
open Go.Proofs.YtmbdbkcifmkpbaaGreatDoor.OwnA (u64s finF readyF apN apN_len fits sideB_iff)
set_option maxRecDepth 10000
set_option maxHeartbeats 16000000
attribute [local simp] Ok_true Br_true Br_false rtV exec_none exec_some opV dstB dstW upd_nil upd_cons upd1_at args0_zero args0_succ args0_nil ev cellsV isDead notSelf allCell cellB shrL shr ownsL owns ownE elems frz noLst noLstL outV_ret outV_norm retV resL resV tupV nmL nm boolV isBoolV isSkV binV unV fillV chunk sizesB sizeV List.mapIdx_cons List.mapIdx_nil List.mapIdx List.mapIdx.go List.range List.range.loop List.map_cons List.map_nil Option.isSome_some Option.isSome_none Option.getD_some Option.map_some Option.bind_some Option.map_none Option.bind_none List.append_nil List.nil_append List.cons_append List.isEmpty_nil List.isEmpty_cons Bool.and_true Bool.true_and Bool.and_false Bool.false_and Bool.or_true Bool.or_false Bool.true_or Bool.false_or Bool.not_true Bool.not_false List.length_cons List.length_nil List.take List.drop List.getD_cons_zero List.getD_cons_succ List.getElem?_cons_zero List.getElem?_cons_succ List.replicate List.flatten Wp_skip Wp_exit Wp_ret Wp_kil Wp_reg Wp_dfr Wi_nil Wi_cons Wp_seq Wp_cond Wp_block seqQ_norm seqQ_exit seqQ_ret blkQ_norm blkQ_exit blkQ_ret nrQ_norm nrQ_exit nrQ_ret lpQ_norm lpQ_exit lpQ_ret outQ_norm outQ_ret rgQ_at kilR kil1 kil kilL sets List.set_cons_zero List.set_cons_succ kilR0 frzd isFz ren renL frV frQ_norm frQ_ret retFr shrF shrFL arrV1
attribute [local simp] wrap_id
theorem c5 : D E 5 [] = some (.bool true) := D_of (n := 40) (by kernel_rfl)
theorem is_f (f : Int) (hf : f ≠ 0) (v o : Num) : D E 14 [encR zN zN false, .int .i64 f, encN v, .int .i64 f, encN o] = some (.bool true) := by
  refine wpE (F := ir14) (by kernel_rfl) (by kernel_rfl) ?_
  unfold encR encN enc zN
  simp [ir14, hf]
theorem is_t {v o : Num} (gv : GN v) (go : GN o) : D E 14 [encR v o (decide (cmpN o v ≤ 0)), .int .i64 0, encN v, .int .i64 0, encN o] = some (.bool true) := by
  refine wpE (F := ir14) (by kernel_rfl) (by kernel_rfl) ?_
  have h1 := c33 go gv
  have h2 := c33 gv gv
  have h3 := c33 go go
  rw [cmp_self gv] at h2
  rw [cmp_self go] at h3
  by_cases h : cmpN o v ≤ 0
  · unfold encR encN enc at *
    simp [ir14, h1, h2, h3, h]
  · unfold encR encN enc at *
    simp [ir14, h1, h2, h3, h]
theorem e11 (a b c : Mt) (ua : u64s a.l) (ub : u64s b.l) (uc : u64s c.l) : ∃ off f, D E 11 [encM a, encM b, encM c] = some (.tup [encN off, .int .i64 f]) ∧ GN off ∧ (f = 0 → firstF [a, b, c] = 0) := by
  by_cases h : firstF [a, b, c] = 0
  · by_cases ho : a.c = b.r ∧ c.r = a.r ∧ c.c = b.c
    · obtain ⟨h1, h2, h3⟩ := first3 h
      have gP : ∀ x ∈ pN a b, GN x := GN_prod2 (fun i j => GN_dot (fun k => GN_gat (GN_ofs _) _ _) (fun k => GN_gat (GN_ofs _) _ _) _) _ _
      have lP : (pN a b).length = a.r.toNat * b.c.toNat := prodN_len _ _ _
      obtain ⟨_, _, _, _, r5⟩ := fin_fits h3
      have hP : (c.l.map ofW).length = (pN a b).length := by rw [lP, List.length_map, r5, ho.2.1, ho.2.2]
      exact ⟨_, _, c8t a b c ua ub uc h ho.1 ho.2.1 ho.2.2 gP hP, GN_fold (GN_zip (GN_ofs _) gP) _ GN0, fun _ => h⟩
    · exact ⟨_, _, c8o a b c ua ub uc h ho, GN0, fun e => by omega⟩
  · exact ⟨_, _, c8e a b c ua ub uc h, GN0, fun e => absurd e h⟩
theorem first2 {a f : Mt} (h : firstF [a, f] = 0) : finM a = 0 ∧ finM f = 0 := by
  by_cases e1 : finM a = 0
  · by_cases e2 : finM f = 0
    · exact ⟨e1, e2⟩
    · simp [firstF, e1, e2] at h
  · simp [firstF, e1] at h
theorem e22 (a f : Mt) (ua : u64s a.l) (uf : u64s f.l) : ∃ off e, D E 22 [encM a, encM f] = some (.tup [encN off, .int .i64 e]) ∧ GN off ∧ (e = 0 → firstF [a, f] = 0) := by
  by_cases h : firstF [a, f] = 0
  · by_cases ho : a.r = a.c ∧ f.r = a.r ∧ f.c = a.r
    · obtain ⟨h1, h2⟩ := first2 h
      obtain ⟨a1, a2, a3, a4, a5⟩ := fin_fits h1
      obtain ⟨f1, f2, f3, f4, f5⟩ := fin_fits h2
      obtain ⟨p, q, al⟩ := a
      obtain ⟨r, t, fl⟩ := f
      simp only at ho a1 a2 a3 a4 a5 f1 f2 f3 f4 f5 ua uf
      obtain ⟨o1, o2, o3⟩ := ho
      subst o2 o3
      subst o1
      obtain ⟨n, rfl⟩ := Int.eq_ofNat_of_zero_le (show 0 ≤ t by omega)
      rw [Int.toNat_natCast] at a5 f5
      exact ⟨_, _, c23t n al fl (by omega) (by omega) ua uf h a5 f5, GN_fold (GN_zip (GN_ofs _) (GN_chP n fl)) _ GN0, fun _ => h⟩
    · exact ⟨_, _, c23o a f ua uf h ho, GN0, fun e => by omega⟩
  · exact ⟨_, _, c23e a f ua uf h, GN0, fun e => absurd e h⟩
theorem e18 (a f : Mt) (s : List Int) (ua : u64s a.l) (uf : u64s f.l) : ∃ off e, D E 18 [encM a, encM f, sws s] = some (.tup [encN off, .int .i64 e]) ∧ GN off ∧ (e = 0 → firstF [a, f] = 0 ∧ f.c ≤ f.r) := by
  by_cases h : firstF [a, f] = 0
  · by_cases ho : a.r = f.r ∧ a.c = f.c ∧ a.c ≤ a.r
    · obtain ⟨h1, h2⟩ := first2 h
      obtain ⟨a1, a2, a3, a4, a5⟩ := fin_fits h1
      obtain ⟨f1, f2, f3, f4, f5⟩ := fin_fits h2
      obtain ⟨p, q, al⟩ := a
      obtain ⟨r, t, fl⟩ := f
      simp only at ho a1 a2 a3 a4 a5 f1 f2 f3 f4 f5 ua uf
      obtain ⟨o1, o2, o3⟩ := ho
      subst o1 o2
      obtain ⟨m, rfl⟩ := Int.eq_ofNat_of_zero_le (show 0 ≤ p by omega)
      obtain ⟨n, rfl⟩ := Int.eq_ofNat_of_zero_le (show 0 ≤ q by omega)
      rw [Int.toNat_natCast, Int.toNat_natCast] at a5 f5
      have q1 := c24 m n al s
      by_cases hr : readyF m n al.length s = 0
      · rw [if_pos hr] at q1
        have lp : (apN n al s s.length).length = m * n := by rw [apN_len]; exact a5
        exact ⟨_, _, c22t m n al fl (apN n al s s.length) s (by omega) (by omega) (by omega) ua uf h lp f5 q1, GN_fold (GN_zip (GN_ofs _) (GN_luP m n fl)) _ GN0, fun _ => ⟨h, by show (n : Int) ≤ m; omega⟩⟩
      · rw [if_neg hr] at q1
        have h4 := ready4 (by unfold OwnA.fits; rw [Bool.and_eq_true, Bool.and_eq_true, sideB_iff, sideB_iff, a5, decide_eq_true_iff]; exact ⟨⟨by omega, by omega⟩, ⟨by omega, by omega⟩, by simp⟩) hr
        rw [h4] at q1
        exact ⟨_, _, c22b m n al fl s 4 (by omega) ua uf h (by decide) q1, GN0, fun e => by omega⟩
    · exact ⟨_, _, c22o a f s ua uf h ho, GN0, fun e => by omega⟩
  · exact ⟨_, _, c22e a f s ua uf h, GN0, fun e => absurd e h⟩
theorem fin_len {m : Mt} (h : finM m = 0) : m.l.length ≤ 100000 := by
  obtain ⟨a1, a2, a3, a4, a5⟩ := fin_fits h
  have := Nat.mul_le_mul (show m.r.toNat ≤ 64 by omega) (show m.c.toNat ≤ 64 by omega)
  omega
/-- THE CERTIFICATE OF A PRODUCT, and what the law says. -/
theorem c15 (a b c : Mt) (k : Int) (ua : u64s a.l) (ub : u64s b.l) (uc : u64s c.l) : ∃ rb ro rh e off f p q g z v h,
    D E 15 [encM a, encM b, encM c, .int .i64 k] = some (.tup [encR rb ro rh, .int .i64 e]) ∧ D E 11 [encM a, encM b, encM c] = some (.tup [encN off, .int .i64 f]) ∧ D E 16 [.int .i64 a.r, .int .i64 a.c, .int .i64 b.c, .int .i64 k] = some (.tup [encP p q, .int .i64 g]) ∧
    D E 8 [.int .i64 f, .int .i64 g] = some (.int .i64 z) ∧ D E 13 [encP p q, encM a, encM b, .bool false, .int .i64 z] = some (.tup [encN v, .int .i64 h]) ∧ D E 14 [encR rb ro rh, .int .i64 e, encN v, .int .i64 h, encN off] = some (.bool true) := by
  obtain ⟨off, f, k1, go, hf⟩ := e11 a b c ua ub uc
  obtain ⟨p, q, g, k2, ip, iq⟩ := e16 a.r a.c b.c k
  have k3 := d8 f g
  by_cases f0 : f = 0
  · rw [if_pos f0] at k3
    obtain ⟨h1, h2, h3⟩ := first3 (hf f0)
    subst f0
    by_cases g0 : g = 0
    · subst g0
      obtain ⟨v, k4, k5, gv⟩ := c42 a b false ip iq ua ub (fin_len h1) (fin_len h2)
      have k6 := c43 gv go
      refine ⟨v, off, _, 0, off, 0, p, q, 0, 0, v, 0, ?_, k1, k2, k3, k5, is_t gv go⟩
      refine wpE (F := ir15) (by kernel_rfl) (by kernel_rfl) ?_
      unfold encN enc encM mat at *
      unfold encP encR at *
      simp [-List.map_map, ir15, k1, k2, k4, k6]
    · refine ⟨zN, zN, false, g, off, 0, p, q, g, g, zN, g, ?_, k1, k2, k3, d13e a b p q false g g0, is_f g g0 zN off⟩
      refine wpE (F := ir15) (by kernel_rfl) (by kernel_rfl) ?_
      unfold encN enc encM mat at *
      unfold encP encR zN at *
      simp [-List.map_map, ir15, k1, k2, g0]
  · rw [if_neg f0] at k3
    refine ⟨zN, zN, false, f, off, f, p, q, g, f, zN, f, ?_, k1, k2, k3, d13e a b p q false f f0, is_f f f0 zN off⟩
    refine wpE (F := ir15) (by kernel_rfl) (by kernel_rfl) ?_
    unfold encN enc encM mat at *
    unfold encR zN at *
    simp [-List.map_map, ir15, k1, f0]
/-- THE CERTIFICATE OF A SQUARE. -/
theorem c21 (a b : Mt) (k : Int) (ua : u64s a.l) (ub : u64s b.l) : ∃ rb ro rh e off f p q g z v h,
    D E 21 [encM a, encM b, .int .i64 k] = some (.tup [encR rb ro rh, .int .i64 e]) ∧ D E 22 [encM a, encM b] = some (.tup [encN off, .int .i64 f]) ∧ D E 23 [.int .i64 a.r, .int .i64 k] = some (.tup [encP p q, .int .i64 g]) ∧
    D E 8 [.int .i64 f, .int .i64 g] = some (.int .i64 z) ∧ D E 13 [encP p q, encM b, encM b, .bool true, .int .i64 z] = some (.tup [encN v, .int .i64 h]) ∧ D E 14 [encR rb ro rh, .int .i64 e, encN v, .int .i64 h, encN off] = some (.bool true) := by
  obtain ⟨off, f, k1, go, hf⟩ := e22 a b ua ub
  obtain ⟨p, q, g, k2, ip, iq⟩ := e23 a.r k
  have k3 := d8 f g
  by_cases f0 : f = 0
  · rw [if_pos f0] at k3
    obtain ⟨h1, h2⟩ := first2 (hf f0)
    subst f0
    by_cases g0 : g = 0
    · subst g0
      obtain ⟨v, k4, k5, gv⟩ := c42 b b true ip iq ub ub (fin_len h2) (fin_len h2)
      have k6 := c43 gv go
      refine ⟨v, off, _, 0, off, 0, p, q, 0, 0, v, 0, ?_, k1, k2, k3, k5, is_t gv go⟩
      refine wpE (F := ir21) (by kernel_rfl) (by kernel_rfl) ?_
      unfold encN enc encM mat at *
      unfold encP encR at *
      simp [-List.map_map, ir21, k1, k2, k4, k6]
    · refine ⟨zN, zN, false, g, off, 0, p, q, g, g, zN, g, ?_, k1, k2, k3, d13e b b p q true g g0, is_f g g0 zN off⟩
      refine wpE (F := ir21) (by kernel_rfl) (by kernel_rfl) ?_
      unfold encN enc encM mat at *
      unfold encP encR zN at *
      simp [-List.map_map, ir21, k1, k2, g0]
  · rw [if_neg f0] at k3
    refine ⟨zN, zN, false, f, off, f, p, q, g, f, zN, f, ?_, k1, k2, k3, d13e b b p q true f f0, is_f f f0 zN off⟩
    refine wpE (F := ir21) (by kernel_rfl) (by kernel_rfl) ?_
    unfold encN enc encM mat at *
    unfold encR zN at *
    simp [-List.map_map, ir21, k1, f0]
/-- two triangles, whatever the matrix -/
theorem e20 (b : Mt) (ub : u64s b.l) : ∃ L U e, D E 20 [encM b] = some (.tup [encM L, encM U, .int .i64 e]) ∧ u64s L.l ∧ u64s U.l ∧ (finM b = 0 → L.l.length ≤ 100000 ∧ U.l.length ≤ 100000) := by
  by_cases h : fits b.r b.c b.l.length = false ∨ b.r < b.c
  · exact ⟨_, _, _, d20b b h, fun y hy => by simp at hy, fun y hy => by simp at hy, fun _ => by simp⟩
  · have h1 : fits b.r b.c b.l.length = true := by
      cases hf : fits b.r b.c b.l.length with
      | true => rfl
      | false => exact absurd (.inl hf) h
    have h2 : ¬ b.r < b.c := fun e => h (.inr e)
    unfold OwnA.fits at h1
    rw [Bool.and_eq_true, Bool.and_eq_true, sideB_iff, sideB_iff, decide_eq_true_iff] at h1
    obtain ⟨b1, b2, b3⟩ := h1
    obtain ⟨r, c, l⟩ := b
    simp only at b1 b2 b3 h2 ub
    obtain ⟨m, rfl⟩ := Int.eq_ofNat_of_zero_le (show 0 ≤ r by omega)
    obtain ⟨n, rfl⟩ := Int.eq_ofNat_of_zero_le (show 0 ≤ c by omega)
    have b4 : (l.length : Int) = ((m * n : Nat) : Int) := by rw [b3]; simp
    have hb : m * n ≤ 64 * 64 := Nat.mul_le_mul (by omega) (by omega)
    have hb2 : n * n ≤ 64 * 64 := Nat.mul_le_mul (by omega) (by omega)
    refine ⟨⟨m, n, loL m n l⟩, ⟨n, n, upL n l⟩, 0, c25 m n l (by omega) (by omega) (by omega) (by omega), loL_u64 ub, upL_u64 ub, fun _ => ⟨?_, ?_⟩⟩
    · show (loL m n l).length ≤ 100000
      rw [loL_len]; omega
    · show (upL n l).length ≤ 100000
      rw [upL_len]; omega
/-- THE CERTIFICATE OF TWO TRIANGLES. -/
theorem c17 (a b : Mt) (s : List Int) (k : Int) (ua : u64s a.l) (ub : u64s b.l) : ∃ rb ro rh e off f p q g z L U es v h,
    D E 17 [encM a, encM b, sws s, .int .i64 k] = some (.tup [encR rb ro rh, .int .i64 e]) ∧ D E 18 [encM a, encM b, sws s] = some (.tup [encN off, .int .i64 f]) ∧ D E 19 [.int .i64 a.r, .int .i64 a.c, .int .i64 k] = some (.tup [encP p q, .int .i64 g]) ∧
    D E 8 [.int .i64 f, .int .i64 g] = some (.int .i64 z) ∧ D E 20 [encM b] = some (.tup [encM L, encM U, .int .i64 es]) ∧ D E 13 [encP p q, encM L, encM U, .bool true, .int .i64 z] = some (.tup [encN v, .int .i64 h]) ∧ D E 14 [encR rb ro rh, .int .i64 e, encN v, .int .i64 h, encN off] = some (.bool true) := by
  obtain ⟨off, f, k1, go, hf⟩ := e18 a b s ua ub
  obtain ⟨p, q, g, k2, ip, iq⟩ := e19 a.r a.c k
  obtain ⟨L, U, es, k7, uL, uU, hLU⟩ := e20 b ub
  have k3 := d8 f g
  by_cases f0 : f = 0
  · rw [if_pos f0] at k3
    obtain ⟨h1, h2⟩ := first2 (hf f0).1
    subst f0
    by_cases g0 : g = 0
    · subst g0
      obtain ⟨v, k4, k5, gv⟩ := c42 L U true ip iq uL uU (hLU h2).1 (hLU h2).2
      have k6 := c43 gv go
      refine ⟨v, off, _, 0, off, 0, p, q, 0, 0, L, U, es, v, 0, ?_, k1, k2, k3, k7, k5, is_t gv go⟩
      refine wpE (F := ir17) (by kernel_rfl) (by kernel_rfl) ?_
      unfold encN enc encM mat sws at *
      unfold encP encR at *
      simp [-List.map_map, ir17, k1, k2, k4, k6, k7]
    · refine ⟨zN, zN, false, g, off, 0, p, q, g, g, L, U, es, zN, g, ?_, k1, k2, k3, k7, d13e L U p q true g g0, is_f g g0 zN off⟩
      refine wpE (F := ir17) (by kernel_rfl) (by kernel_rfl) ?_
      unfold encN enc encM mat sws at *
      unfold encP encR zN at *
      simp [-List.map_map, ir17, k1, k2, g0]
  · rw [if_neg f0] at k3
    refine ⟨zN, zN, false, f, off, f, p, q, g, f, L, U, es, zN, f, ?_, k1, k2, k3, k7, d13e L U p q true f f0, is_f f f0 zN off⟩
    refine wpE (F := ir17) (by kernel_rfl) (by kernel_rfl) ?_
    unfold encN enc encM mat sws at *
    unfold encR zN at *
    simp [-List.map_map, ir17, k1, f0]
/-- THE LAW: certificates. -/
theorem t4 (a b c : Mt) (s : List Int) (k : Int) (ua : u64s a.l) (ub : u64s b.l) (uc : u64s c.l) : D E 4 [encM a, encM b, encM c, sws s, .int .i64 k] = some (.bool true) := by
  have k0 := c5
  obtain ⟨rb, ro, rh, e, off, f, p, q, g, z, v, h, a1, a2, a3, a4, a5, a6⟩ := c15 a b c k ua ub uc
  obtain ⟨rb2, ro2, rh2, e2, off2, f2, p2, q2, g2, z2, L2, U2, es2, v2, h2, b1, b2, b3, b4, b5, b6, b7⟩ := c17 a b s k ua ub
  obtain ⟨rb3, ro3, rh3, e3, off3, f3, p3, q3, g3, z3, v3, h3, d1, d2, d3, d4, d5, d6⟩ := c21 a b k ua ub
  refine wpE (F := ir4) (by kernel_rfl) (by kernel_rfl) ?_
  unfold encN enc encM mat sws at *
  unfold encP encR at *
  simp (maxSteps := 4000000) [-List.map_map, ir4, k0, a1, a2, a3, a4, a5, a6, b1, b2, b3, b4, b5, b6, b7, d1, d2, d3, d4, d5, d6]
end Go.Proofs.YtmbdbkcifmkpbaaGreatDoor.Den
