/- Bounds of products, by halves. -/
import Derived.Test.YtmbdbkcifmkpbaaGreatDoorCM5

set_option linter.unusedVariables false
set_option linter.unusedSimpArgs false
namespace Go.Proofs.YtmbdbkcifmkpbaaGreatDoor.Den
open Go
open Go.Proofs.YtmbdbkcifmkpbaaGreatDoor.OwnA (u64s min3)
set_option maxRecDepth 10000
set_option maxHeartbeats 16000000
attribute [local simp] Ok_true Br_true Br_false rtV exec_none exec_some opV dstB dstW upd_nil upd_cons upd1_at args0_zero args0_succ args0_nil ev cellsV isDead notSelf allCell cellB shrL shr ownsL owns ownE elems frz noLst noLstL outV_ret outV_norm retV resL resV tupV nmL nm boolV isBoolV isSkV binV unV fillV chunk sizesB sizeV List.mapIdx_cons List.mapIdx_nil List.mapIdx List.mapIdx.go List.range List.range.loop List.map_cons List.map_nil Option.isSome_some Option.isSome_none Option.getD_some Option.map_some Option.bind_some Option.map_none Option.bind_none List.append_nil List.nil_append List.cons_append List.isEmpty_nil List.isEmpty_cons Bool.and_true Bool.true_and Bool.and_false Bool.false_and Bool.or_true Bool.or_false Bool.true_or Bool.false_or Bool.not_true Bool.not_false List.length_cons List.length_nil List.take List.drop List.getD_cons_zero List.getD_cons_succ List.getElem?_cons_zero List.getElem?_cons_succ List.replicate List.flatten Wp_skip Wp_exit Wp_ret Wp_kil Wp_reg Wp_dfr Wi_nil Wi_cons Wp_seq Wp_cond Wp_block seqQ_norm seqQ_exit seqQ_ret blkQ_norm blkQ_exit blkQ_ret nrQ_norm nrQ_exit nrQ_ret lpQ_norm lpQ_exit lpQ_ret outQ_norm outQ_ret rgQ_at kilR kil1 kil kilL sets List.set_cons_zero List.set_cons_succ kilR0 frzd isFz ren renL frV frQ_norm frQ_ret retFr shrF shrFL arrV1
attribute [local simp] wrap_id
theorem half_q {n : Int} (h0 : 0 ≤ n) (h1 : n ≤ 64) : IntKind.i64.wrap (n.tdiv 2) = n / 2 := by
  rw [Int.tdiv_eq_ediv_of_nonneg h0, wrap_id (by omega) (by omega)]
theorem half_r {n : Int} (h0 : 0 ≤ n) : n.tmod 2 = n % 2 := Int.tmod_eq_emod_of_nonneg h0
theorem d72f (m k n c : Int) : D E 72 [.int .i64 m, .int .i64 k, .int .i64 n, .int .i64 c] = some (.bool (decide (min3 m k n > c))) := by
  refine prE (p := pFast) (by kernel_rfl) ?_
  rfl
theorem min3_le (m k n : Int) : min3 m k n ≤ m ∧ min3 m k n ≤ k ∧ min3 m k n ≤ n := by
  unfold min3 Go.Proofs.YtmbdbkcifmkpbaaGreatDoorW.PrintWords.mn
  repeat' split
  all_goals omega
theorem min3_half {m k n : Int} {t : Int} (h : min3 m k n < 2 * t) : min3 (m / 2) (k / 2) (n / 2) < t := by
  unfold min3 Go.Proofs.YtmbdbkcifmkpbaaGreatDoorW.PrintWords.mn at *
  repeat' split at h
  all_goals (repeat' split)
  all_goals omega
/-- of a product -/
theorem b44 : ∀ (d : Nat), d ≤ 6 → ∀ (m k n c : Int), 1 ≤ m → m ≤ 64 → 1 ≤ k → k ≤ 64 → 1 ≤ n → n ≤ 64 → 1 ≤ c → min3 m k n < 2 ^ (d + 1) →
    ∃ e g, D E 44 [.int .i64 m, .int .i64 k, .int .i64 n, .int .i64 c] = some (encP e g) ∧ IV (-3400 - 424 * d) (800 + 123 * d) e ∧ IV (-4500 - 212 * d) (800 + 49 * d) g := by
  intro d
  induction d with
  | zero =>
    intro _ m k n c m0 m1 k0 k1 n0 n1 c0 hm
    have h2 : (2 : Int) ^ (0 + 1) = 2 := by rfl
    rw [h2] at hm
    obtain ⟨K, rfl⟩ := Int.eq_ofNat_of_zero_le (show 0 ≤ k by omega)
    obtain ⟨e, g, q1, q2, q3⟩ := b73 K (by omega) (by omega)
    refine ⟨e, g, ?_, q2.mono (by omega) (by omega), q3.mono (by omega) (by omega)⟩
    refine wpE (F := ir44) (by kernel_rfl) (by kernel_rfl) ?_
    have q0 := d72f m K n c
    rw [decide_eq_false (show ¬ min3 m K n > c by omega)] at q0
    unfold encP at *
    simp [ir44, q0, q1]
  | succ d ih =>
    intro hd m k n c m0 m1 k0 k1 n0 n1 c0 hm
    have q0 := d72f m k n c
    obtain ⟨K, hK⟩ : ∃ K : Nat, k = K := Int.eq_ofNat_of_zero_le (show 0 ≤ k by omega)
    obtain ⟨de, dg, q1, q2, q3⟩ := b73 K (by omega) (by omega)
    rw [← hK] at q1
    by_cases hf : min3 m k n > c
    · rw [decide_eq_true hf] at q0
      have hle := min3_le m k n
      have hp : (2 : Int) ^ (d + 1 + 1) = 2 * 2 ^ (d + 1) := by rw [Int.pow_succ, Int.mul_comm]
      rw [hp] at hm
      obtain ⟨e1, g1, r1, r2, r3⟩ := ih (by omega) (m / 2) (k / 2) (n / 2) c (by omega) (by omega) (by omega) (by omega) (by omega) (by omega) c0 (min3_half hm)
      obtain ⟨e2, g2, s1, s2, s3⟩ := b74 (k := k / 2) r2 r3 (by omega) (by omega) (by omega) (by omega) (by omega) (by omega) (by omega) (by omega) (by omega) (by omega)
      have w1 := half_q (n := m) (by omega) (by omega)
      have w2 := half_q (n := k) (by omega) (by omega)
      have w3 := half_q (n := n) (by omega) (by omega)
      have w4 := half_r (n := m) (by omega)
      have w5 := half_r (n := k) (by omega)
      have w6 := half_r (n := n) (by omega)
      have w7 : IntKind.i64.wrap (k - 1) = k - 1 := wrap_id (by omega) (by omega)
      by_cases hk : k % 2 = 1
      · by_cases hm2 : m % 2 = 1
        · have x1 : (k % 2 == 1) = true := by simp; omega
          obtain ⟨e3, g3, t1, t2, t3⟩ := b75 (n := k - 1) (s2.mono (lo' := -3771 - 424 * d) (hi' := 910 + 123 * d) (by omega) (by omega)) (s3.mono (lo' := -4659 - 212 * d) (hi' := 836 + 49 * d) (by omega) (by omega)) (by omega) (by omega)
          obtain ⟨e4, g4, u1, u2, u3⟩ := most_ok (le := -3824 - 424 * d) (he := 922 + 123 * d) (lg := -4712 - 212 * d) (hg := 848 + 49 * d) (L := [(de, dg)]) (t2.mono (by omega) (by omega)) (t3.mono (by omega) (by omega)) (by simp; exact ⟨q2.mono (by omega) (by omega), q3.mono (by omega) (by omega)⟩) (by simp)
          simp only [List.map_cons, List.map_nil] at u1
          have x2 : (m % 2 == 1) = true := by simp; omega
          have x3 : (m % 2 == 1) = true := x2
          obtain ⟨e5, g5, v1, v2, v3⟩ := b62 u2 u3
          refine ⟨e5, g5, ?_, v2.mono (by omega) (by omega), v3.mono (by omega) (by omega)⟩
          refine wpE (F := ir44) (by kernel_rfl) (by kernel_rfl) ?_
          unfold encP at *
          simp [-beq_iff_eq, -beq_eq_false_iff_ne, ir44, q0, q1, r1, s1, t1, u1, v1, w1, w2, w3, w4, w5, w6, w7, x1, x2, x3]
        · by_cases hn2 : n % 2 = 1
          · have x1 : (k % 2 == 1) = true := by simp; omega
            obtain ⟨e3, g3, t1, t2, t3⟩ := b75 (n := k - 1) (s2.mono (lo' := -3771 - 424 * d) (hi' := 910 + 123 * d) (by omega) (by omega)) (s3.mono (lo' := -4659 - 212 * d) (hi' := 836 + 49 * d) (by omega) (by omega)) (by omega) (by omega)
            obtain ⟨e4, g4, u1, u2, u3⟩ := most_ok (le := -3824 - 424 * d) (he := 922 + 123 * d) (lg := -4712 - 212 * d) (hg := 848 + 49 * d) (L := [(de, dg)]) (t2.mono (by omega) (by omega)) (t3.mono (by omega) (by omega)) (by simp; exact ⟨q2.mono (by omega) (by omega), q3.mono (by omega) (by omega)⟩) (by simp)
            simp only [List.map_cons, List.map_nil] at u1
            have x2 : (m % 2 == 1) = false := by simp; omega
            have x3 : (n % 2 == 1) = true := by simp; omega
            obtain ⟨e5, g5, v1, v2, v3⟩ := b62 u2 u3
            refine ⟨e5, g5, ?_, v2.mono (by omega) (by omega), v3.mono (by omega) (by omega)⟩
            refine wpE (F := ir44) (by kernel_rfl) (by kernel_rfl) ?_
            unfold encP at *
            simp [-beq_iff_eq, -beq_eq_false_iff_ne, ir44, q0, q1, r1, s1, t1, u1, v1, w1, w2, w3, w4, w5, w6, w7, x1, x2, x3]
          · have x1 : (k % 2 == 1) = true := by simp; omega
            obtain ⟨e3, g3, t1, t2, t3⟩ := b75 (n := k - 1) (s2.mono (lo' := -3771 - 424 * d) (hi' := 910 + 123 * d) (by omega) (by omega)) (s3.mono (lo' := -4659 - 212 * d) (hi' := 836 + 49 * d) (by omega) (by omega)) (by omega) (by omega)
            obtain ⟨e4, g4, u2, u3, u1⟩ : ∃ e4 g4, IV (-3824 - 424 * d) (922 + 123 * d) e4 ∧ IV (-4712 - 212 * d) (848 + 49 * d) g4 ∧ e4 = e3 ∧ g4 = g3 := ⟨e3, g3, t2.mono (by omega) (by omega), t3.mono (by omega) (by omega), rfl, rfl⟩
            obtain ⟨rfl, rfl⟩ := u1
            have x2 : (m % 2 == 1) = false := by simp; omega
            have x3 : (n % 2 == 1) = false := by simp; omega
            obtain ⟨e5, g5, v1, v2, v3⟩ := b62 u2 u3
            refine ⟨e5, g5, ?_, v2.mono (by omega) (by omega), v3.mono (by omega) (by omega)⟩
            refine wpE (F := ir44) (by kernel_rfl) (by kernel_rfl) ?_
            unfold encP at *
            simp [-beq_iff_eq, -beq_eq_false_iff_ne, ir44, q0, q1, r1, s1, t1, v1, w1, w2, w3, w4, w5, w6, w7, x1, x2, x3]
      · by_cases hm2 : m % 2 = 1
        · have x1 : (k % 2 == 1) = false := by simp; omega
          obtain ⟨e3, g3, t2, t3, t1⟩ : ∃ e3 g3, IV (-3824 - 424 * d) (922 + 123 * d) e3 ∧ IV (-4712 - 212 * d) (848 + 49 * d) g3 ∧ e3 = e2 ∧ g3 = g2 := ⟨e2, g2, s2.mono (by omega) (by omega), s3.mono (by omega) (by omega), rfl, rfl⟩
          obtain ⟨rfl, rfl⟩ := t1
          obtain ⟨e4, g4, u1, u2, u3⟩ := most_ok (le := -3824 - 424 * d) (he := 922 + 123 * d) (lg := -4712 - 212 * d) (hg := 848 + 49 * d) (L := [(de, dg)]) (t2.mono (by omega) (by omega)) (t3.mono (by omega) (by omega)) (by simp; exact ⟨q2.mono (by omega) (by omega), q3.mono (by omega) (by omega)⟩) (by simp)
          simp only [List.map_cons, List.map_nil] at u1
          have x2 : (m % 2 == 1) = true := by simp; omega
          have x3 : (m % 2 == 1) = true := x2
          obtain ⟨e5, g5, v1, v2, v3⟩ := b62 u2 u3
          refine ⟨e5, g5, ?_, v2.mono (by omega) (by omega), v3.mono (by omega) (by omega)⟩
          refine wpE (F := ir44) (by kernel_rfl) (by kernel_rfl) ?_
          unfold encP at *
          simp [-beq_iff_eq, -beq_eq_false_iff_ne, ir44, q0, q1, r1, s1, u1, v1, w1, w2, w3, w4, w5, w6, w7, x1, x2, x3]
        · by_cases hn2 : n % 2 = 1
          · have x1 : (k % 2 == 1) = false := by simp; omega
            obtain ⟨e3, g3, t2, t3, t1⟩ : ∃ e3 g3, IV (-3824 - 424 * d) (922 + 123 * d) e3 ∧ IV (-4712 - 212 * d) (848 + 49 * d) g3 ∧ e3 = e2 ∧ g3 = g2 := ⟨e2, g2, s2.mono (by omega) (by omega), s3.mono (by omega) (by omega), rfl, rfl⟩
            obtain ⟨rfl, rfl⟩ := t1
            obtain ⟨e4, g4, u1, u2, u3⟩ := most_ok (le := -3824 - 424 * d) (he := 922 + 123 * d) (lg := -4712 - 212 * d) (hg := 848 + 49 * d) (L := [(de, dg)]) (t2.mono (by omega) (by omega)) (t3.mono (by omega) (by omega)) (by simp; exact ⟨q2.mono (by omega) (by omega), q3.mono (by omega) (by omega)⟩) (by simp)
            simp only [List.map_cons, List.map_nil] at u1
            have x2 : (m % 2 == 1) = false := by simp; omega
            have x3 : (n % 2 == 1) = true := by simp; omega
            obtain ⟨e5, g5, v1, v2, v3⟩ := b62 u2 u3
            refine ⟨e5, g5, ?_, v2.mono (by omega) (by omega), v3.mono (by omega) (by omega)⟩
            refine wpE (F := ir44) (by kernel_rfl) (by kernel_rfl) ?_
            unfold encP at *
            simp [-beq_iff_eq, -beq_eq_false_iff_ne, ir44, q0, q1, r1, s1, u1, v1, w1, w2, w3, w4, w5, w6, w7, x1, x2, x3]
          · have x1 : (k % 2 == 1) = false := by simp; omega
            obtain ⟨e3, g3, t2, t3, t1⟩ : ∃ e3 g3, IV (-3824 - 424 * d) (922 + 123 * d) e3 ∧ IV (-4712 - 212 * d) (848 + 49 * d) g3 ∧ e3 = e2 ∧ g3 = g2 := ⟨e2, g2, s2.mono (by omega) (by omega), s3.mono (by omega) (by omega), rfl, rfl⟩
            obtain ⟨rfl, rfl⟩ := t1
            obtain ⟨e4, g4, u2, u3, u1⟩ : ∃ e4 g4, IV (-3824 - 424 * d) (922 + 123 * d) e4 ∧ IV (-4712 - 212 * d) (848 + 49 * d) g4 ∧ e4 = e3 ∧ g4 = g3 := ⟨e3, g3, t2.mono (by omega) (by omega), t3.mono (by omega) (by omega), rfl, rfl⟩
            obtain ⟨rfl, rfl⟩ := u1
            have x2 : (m % 2 == 1) = false := by simp; omega
            have x3 : (n % 2 == 1) = false := by simp; omega
            obtain ⟨e5, g5, v1, v2, v3⟩ := b62 u2 u3
            refine ⟨e5, g5, ?_, v2.mono (by omega) (by omega), v3.mono (by omega) (by omega)⟩
            refine wpE (F := ir44) (by kernel_rfl) (by kernel_rfl) ?_
            unfold encP at *
            simp [-beq_iff_eq, -beq_eq_false_iff_ne, ir44, q0, q1, r1, s1, v1, w1, w2, w3, w4, w5, w6, w7, x1, x2, x3]
    · rw [decide_eq_false hf] at q0
      refine ⟨de, dg, ?_, q2.mono (by omega) (by omega), q3.mono (by omega) (by omega)⟩
      refine wpE (F := ir44) (by kernel_rfl) (by kernel_rfl) ?_
      unfold encP at *
      simp [ir44, q0, q1]
end Go.Proofs.YtmbdbkcifmkpbaaGreatDoor.Den
