/- Bounds of triangles, by halves. -/
import Derived.Test.YtmbdbkcifmkpbaaGreatDoorCM6

set_option linter.unusedVariables false
set_option linter.unusedSimpArgs false
namespace Go.Proofs.YtmbdbkcifmkpbaaGreatDoor.Den
open Go
open Go.Proofs.YtmbdbkcifmkpbaaGreatDoor.OwnA (u64s min3)
set_option maxRecDepth 10000
set_option maxHeartbeats 16000000
attribute [local simp] Ok_true Br_true Br_false rtV exec_none exec_some opV dstB dstW upd_nil upd_cons upd1_at args0_zero args0_succ args0_nil ev cellsV isDead notSelf allCell cellB shrL shr ownsL owns ownE elems frz noLst noLstL outV_ret outV_norm retV resL resV tupV nmL nm boolV isBoolV isSkV binV unV fillV chunk sizesB sizeV List.mapIdx_cons List.mapIdx_nil List.mapIdx List.mapIdx.go List.range List.range.loop List.map_cons List.map_nil Option.isSome_some Option.isSome_none Option.getD_some Option.map_some Option.bind_some Option.map_none Option.bind_none List.append_nil List.nil_append List.cons_append List.isEmpty_nil List.isEmpty_cons Bool.and_true Bool.true_and Bool.and_false Bool.false_and Bool.or_true Bool.or_false Bool.true_or Bool.false_or Bool.not_true Bool.not_false List.length_cons List.length_nil List.take List.drop List.getD_cons_zero List.getD_cons_succ List.getElem?_cons_zero List.getElem?_cons_succ List.replicate List.flatten Wp_skip Wp_exit Wp_ret Wp_kil Wp_reg Wp_dfr Wi_nil Wi_cons Wp_seq Wp_cond Wp_block seqQ_norm seqQ_exit seqQ_ret blkQ_norm blkQ_exit blkQ_ret nrQ_norm nrQ_exit nrQ_ret lpQ_norm lpQ_exit lpQ_ret outQ_norm outQ_ret rgQ_at kilR kil1 kil kilL sets List.set_cons_zero List.set_cons_succ kilR0 frzd isFz ren renL frV frQ_norm frQ_ret retFr shrF shrFL arrV1
attribute [local simp] wrap_id
theorem p44 {m k n c : Int} (m0 : 1 ≤ m) (m1 : m ≤ 64) (k0 : 1 ≤ k) (k1 : k ≤ 64) (n0 : 1 ≤ n) (n1 : n ≤ 64) (c0 : 1 ≤ c) :
    ∃ e g, D E 44 [.int .i64 m, .int .i64 k, .int .i64 n, .int .i64 c] = some (encP e g) ∧ IV (-5950) 1550 e ∧ IV (-5800) 1150 g := by
  have hm := min3_le m k n
  have e7 : (2 : Int) ^ (6 + 1) = 128 := by rfl
  obtain ⟨e, g, h1, h2, h3⟩ := b44 6 (by omega) m k n c m0 m1 k0 k1 n0 n1 c0 (by omega)
  exact ⟨e, g, h1, h2.mono (by omega) (by omega), h3.mono (by omega) (by omega)⟩
/-- of a triangle -/
theorem b37 (m c : Int) (upper one : Bool) (m0 : 1 ≤ m) (m1 : m ≤ 64) (c0 : 1 ≤ c) : ∀ (d : Nat), d ≤ 6 → ∀ n : Int, 1 ≤ n → n ≤ 2 ^ d → n ≤ 64 →
    ∃ e g, D E 37 [.int .i64 n, .int .i64 m, .bool upper, .bool one, .int .i64 c] = some (encP e g) ∧ IV (-5950 - 53 * d) (1550 + 14 * d) e ∧ IV (-5800 - 53 * d) (1150 + 14 * d) g := by
  intro d
  induction d with
  | zero =>
    intro _ n n0 n1 n2
    have hn : n = 1 := by simp at n1; omega
    subst hn
    cases one with
    | true =>
      have q0 := q58 0 0 (by omega) (by omega) (by omega) (by omega)
      refine ⟨ofN 0 0, ofN 0 0, ?_, f_n, f_n⟩
      refine wpE (F := ir37) (by kernel_rfl) (by kernel_rfl) ?_
      unfold encN enc at *
      unfold encP
      simp [ir37, q0]
    | false =>
      have q0 := b59
      refine ⟨ofN 1 (-53), ofN 1 (-1075), ?_, f_e, f_g⟩
      refine wpE (F := ir37) (by kernel_rfl) (by kernel_rfl) ?_
      unfold encP at *
      simp [ir37, q0]
  | succ d ih =>
    intro hd n n0 n1 n2
    by_cases hn : n = 1
    · subst hn
      obtain ⟨e, g, h1, h2, h3⟩ := ih (by omega) 1 (by omega) (by have := p2 d; omega) (by omega)
      exact ⟨e, g, h1, h2.mono (by omega) (by omega), h3.mono (by omega) (by omega)⟩
    · have hp : (2 : Int) ^ (d + 1) = 2 * 2 ^ d := by rw [Int.pow_succ, Int.mul_comm]
      rw [hp] at n1
      have w1 := half_q (n := n) (by omega) (by omega)
      have w2 : IntKind.i64.wrap (n - n / 2) = n - n / 2 := wrap_id (by omega) (by omega)
      have hn1 : (n == 1) = false := by simpa using hn
      obtain ⟨a, ha⟩ : ∃ a, n / 2 = a := ⟨_, rfl⟩
      obtain ⟨b, hb⟩ : ∃ b, n - a = b := ⟨_, rfl⟩
      rw [ha] at w1
      rw [ha, hb] at w2
      have key : ∀ x y : Int, 1 ≤ x → x ≤ 2 ^ d → x ≤ 64 → 1 ≤ y → y ≤ 2 ^ d → y ≤ 64 → ∃ h1 h2 l1 l2 s1 s2 r1 r2 v1 v2 z1 z2,
          D E 37 [.int .i64 x, .int .i64 m, .bool upper, .bool one, .int .i64 c] = some (encP h1 h2) ∧ D E 37 [.int .i64 y, .int .i64 m, .bool upper, .bool one, .int .i64 c] = some (encP l1 l2) ∧
          D E 44 [.int .i64 y, .int .i64 x, .int .i64 m, .int .i64 c] = some (encP s1 s2) ∧ D E 61 [encP s1 s2, encP l1 l2, .int .i64 y] = some (encP r1 r2) ∧
          D E 60 [encP h1 h2, .lst [encP r1 r2]] = some (encP v1 v2) ∧ D E 62 [encP v1 v2] = some (encP z1 z2) ∧ IV (-5950 - 53 * (d + 1)) (1550 + 14 * (d + 1)) z1 ∧ IV (-5800 - 53 * (d + 1)) (1150 + 14 * (d + 1)) z2 := by
        intro x y x0 x1 x2 y0 y1 y2
        obtain ⟨h1, h2, q1, i1, j1⟩ := ih (by omega) x x0 x1 x2
        obtain ⟨l1, l2, q2, i2, j2⟩ := ih (by omega) y y0 y1 y2
        obtain ⟨s1, s2, q3, i3, j3⟩ := p44 (m := y) (k := x) (n := m) (c := c) y0 y2 x0 x2 m0 m1 c0
        obtain ⟨r1, r2, q4, i4, j4⟩ := b61 (n := y) (le := -5950 - 53 * d) (he := 1550 + 14 * d) (lg := -5800 - 53 * d) (hg := 1150 + 14 * d) (i3.mono (by omega) (by omega)) (j3.mono (by omega) (by omega)) i2 j2 (by omega) (by omega)
        obtain ⟨v1, v2, q5, i5, j5⟩ := most_ok (L := [(r1, r2)]) (i1.mono (lo' := -5950 - 53 * d - 53) (hi' := 1550 + 14 * d + 10) (by omega) (by omega)) (j1.mono (lo' := -5800 - 53 * d - 53) (hi' := 1150 + 14 * d + 10) (by omega) (by omega)) (by simp; exact ⟨i4, j4⟩) (by simp)
        obtain ⟨z1, z2, q6, i6, j6⟩ := b62 i5 j5
        exact ⟨h1, h2, l1, l2, s1, s2, r1, r2, v1, v2, z1, z2, q1, q2, q3, q4, q5, q6, i6.mono (by omega) (by omega), j6.mono (by omega) (by omega)⟩
      cases upper with
      | false =>
        obtain ⟨h1, h2, l1, l2, s1, s2, r1, r2, v1, v2, z1, z2, q1, q2, q3, q4, q5, q6, i6, j6⟩ := key a b (by omega) (by omega) (by omega) (by omega) (by omega) (by omega)
        refine ⟨z1, z2, ?_, i6.mono (by omega) (by omega), j6.mono (by omega) (by omega)⟩
        clear ih key
        refine wpE (F := ir37) (by kernel_rfl) (by kernel_rfl) ?_
        unfold encP at *
        simp [-beq_iff_eq, -beq_eq_false_iff_ne, ir37, hn1, w1, w2, hb, q1, q2, q3, q4, q5, q6]
      | true =>
        obtain ⟨h1, h2, l1, l2, s1, s2, r1, r2, v1, v2, z1, z2, q1, q2, q3, q4, q5, q6, i6, j6⟩ := key b a (by omega) (by omega) (by omega) (by omega) (by omega) (by omega)
        refine ⟨z1, z2, ?_, i6.mono (by omega) (by omega), j6.mono (by omega) (by omega)⟩
        clear ih key
        refine wpE (F := ir37) (by kernel_rfl) (by kernel_rfl) ?_
        unfold encP at *
        simp [-beq_iff_eq, -beq_eq_false_iff_ne, ir37, hn1, w1, w2, hb, q1, q2, q3, q4, q5, q6]
theorem p37 {n m c : Int} {upper one : Bool} (n0 : 1 ≤ n) (n1 : n ≤ 64) (m0 : 1 ≤ m) (m1 : m ≤ 64) (c0 : 1 ≤ c) :
    ∃ e g, D E 37 [.int .i64 n, .int .i64 m, .bool upper, .bool one, .int .i64 c] = some (encP e g) ∧ IV (-6300) 1660 e ∧ IV (-6150) 1260 g := by
  have e6 : (2 : Int) ^ 6 = 64 := by rfl
  obtain ⟨e, g, h1, h2, h3⟩ := b37 m c upper one m0 m1 c0 6 (by omega) n n0 (by omega) n1
  exact ⟨e, g, h1, h2.mono (by omega) (by omega), h3.mono (by omega) (by omega)⟩
/-- of two triangles -/
theorem b46 (c : Int) (c0 : 1 ≤ c) : ∀ (d : Nat), d ≤ 6 → ∀ m n : Int, 1 ≤ n → n ≤ 2 ^ d → n ≤ m → m ≤ 64 →
    ∃ e g, D E 46 [.int .i64 m, .int .i64 n, .int .i64 c] = some (encP e g) ∧ IV (-6300 - 53 * d) (1660 + 14 * d) e ∧ IV (-6150 - 53 * d) (1260 + 14 * d) g := by
  intro d
  induction d with
  | zero =>
    intro _ m n n0 n1 nm m1
    have hn : n = 1 := by simp at n1; omega
    subst hn
    have q0 := b59
    refine ⟨ofN 1 (-53), ofN 1 (-1075), ?_, f_e, f_g⟩
    refine wpE (F := ir46) (by kernel_rfl) (by kernel_rfl) ?_
    unfold encP at *
    simp [ir46, q0]
  | succ d ih =>
    intro hd m n n0 n1 nm m1
    by_cases hn : n = 1
    · subst hn
      obtain ⟨e, g, h1, h2, h3⟩ := ih (by omega) m 1 (by omega) (by have := p2 d; omega) nm m1
      exact ⟨e, g, h1, h2.mono (by omega) (by omega), h3.mono (by omega) (by omega)⟩
    · have hp : (2 : Int) ^ (d + 1) = 2 * 2 ^ d := by rw [Int.pow_succ, Int.mul_comm]
      rw [hp] at n1
      have w1 := half_q (n := n) (by omega) (by omega)
      have w2 : IntKind.i64.wrap (n - n / 2) = n - n / 2 := wrap_id (by omega) (by omega)
      have w3 : IntKind.i64.wrap (m - n / 2) = m - n / 2 := wrap_id (by omega) (by omega)
      have hn1 : (n == 1) = false := by simpa using hn
      obtain ⟨a, ha⟩ : ∃ a, n / 2 = a := ⟨_, rfl⟩
      obtain ⟨b, hb⟩ : ∃ b, n - a = b := ⟨_, rfl⟩
      obtain ⟨r, hr⟩ : ∃ r, m - a = r := ⟨_, rfl⟩
      rw [ha] at w1
      rw [ha, hb] at w2
      rw [ha, hr] at w3
      obtain ⟨s1, s2, q1, i1, j1⟩ := p44 (m := r) (k := a) (n := b) (c := c) (by omega) (by omega) (by omega) (by omega) (by omega) (by omega) c0
      obtain ⟨l1, l2, q2, i2, j2⟩ := ih (by omega) r b (by omega) (by omega) (by omega) (by omega)
      obtain ⟨r1, r2, q3, i3, j3⟩ := b61 (n := b) (le := -6300 - 53 * d) (he := 1660 + 14 * d) (lg := -6150 - 53 * d) (hg := 1260 + 14 * d) (i1.mono (by omega) (by omega)) (j1.mono (by omega) (by omega)) i2 j2 (by omega) (by omega)
      obtain ⟨h1, h2, q4, i4, j4⟩ := ih (by omega) m a (by omega) (by omega) (by omega) m1
      obtain ⟨t1, t2, q5, i5, j5⟩ := p37 (n := a) (m := b) (c := c) (upper := false) (one := true) (by omega) (by omega) (by omega) (by omega) c0
      obtain ⟨v1, v2, q6, i6, j6⟩ := most_ok (L := [(t1, t2), (r1, r2)]) (i4.mono (lo' := -6300 - 53 * d - 53) (hi' := 1660 + 14 * d + 10) (by omega) (by omega)) (j4.mono (lo' := -6150 - 53 * d - 53) (hi' := 1260 + 14 * d + 10) (by omega) (by omega)) (by
        intro p hp
        simp only [List.mem_cons, List.not_mem_nil, or_false] at hp
        rcases hp with rfl | rfl
        · exact ⟨i5.mono (by omega) (by omega), j5.mono (by omega) (by omega)⟩
        · exact ⟨i3, j3⟩) (by simp)
      obtain ⟨z1, z2, q7, i7, j7⟩ := b62 i6 j6
      refine ⟨z1, z2, ?_, i7.mono (by omega) (by omega), j7.mono (by omega) (by omega)⟩
      simp only [List.map_cons, List.map_nil] at q6
      clear ih
      refine wpE (F := ir46) (by kernel_rfl) (by kernel_rfl) ?_
      unfold encP at *
      simp [-beq_iff_eq, -beq_eq_false_iff_ne, ir46, hn1, w1, w2, w3, hb, hr, q1, q2, q3, q4, q5, q6, q7]
/-- of a square -/
theorem b49 (c : Int) (c0 : 1 ≤ c) : ∀ (d : Nat), d ≤ 6 → ∀ n : Int, 1 ≤ n → n ≤ 2 ^ d → n ≤ 64 →
    ∃ e g, D E 49 [.int .i64 n, .int .i64 c] = some (encP e g) ∧ IV (-6300 - 53 * d) (1660 + 14 * d) e ∧ IV (-6150 - 53 * d) (1260 + 14 * d) g := by
  intro d
  induction d with
  | zero =>
    intro _ n n0 n1 n2
    have hn : n = 1 := by simp at n1; omega
    subst hn
    have q0 := q58 0 0 (by omega) (by omega) (by omega) (by omega)
    have q1 := q58 1 (-52) (by omega) (by omega) (by omega) (by omega)
    have q2 := q58 1 (-106) (by omega) (by omega) (by omega) (by omega)
    have i1 : IV (-106) 7 (ofN 1 (-52)) := (of_IV (by omega) (by omega) (by omega) (by omega)).mono (by omega) (by omega)
    have i2 : IV (-106) 7 (ofN 1 (-106)) := of_IV (by omega) (by omega) (by omega) (by omega)
    obtain ⟨e, q3, i3⟩ := plus1 i1 i2
    refine ⟨e, ofN 0 0, ?_, i3.mono (by omega) (by omega), f_n⟩
    refine wpE (F := ir49) (by kernel_rfl) (by kernel_rfl) ?_
    unfold encN enc at *
    unfold encP
    simp [ir49, q0, q1, q2, q3]
  | succ d ih =>
    intro hd n n0 n1 n2
    by_cases hn : n = 1
    · subst hn
      obtain ⟨e, g, h1, h2, h3⟩ := ih (by omega) 1 (by omega) (by have := p2 d; omega) (by omega)
      exact ⟨e, g, h1, h2.mono (by omega) (by omega), h3.mono (by omega) (by omega)⟩
    · have hp : (2 : Int) ^ (d + 1) = 2 * 2 ^ d := by rw [Int.pow_succ, Int.mul_comm]
      rw [hp] at n1
      have w1 := half_q (n := n) (by omega) (by omega)
      have w2 : IntKind.i64.wrap (n - n / 2) = n - n / 2 := wrap_id (by omega) (by omega)
      have hn1 : (n == 1) = false := by simpa using hn
      obtain ⟨a, ha⟩ : ∃ a, n / 2 = a := ⟨_, rfl⟩
      obtain ⟨b, hb⟩ : ∃ b, n - a = b := ⟨_, rfl⟩
      rw [ha] at w1
      rw [ha, hb] at w2
      obtain ⟨s1, s2, q1, i1, j1⟩ := p44 (m := b) (k := a) (n := b) (c := c) (by omega) (by omega) (by omega) (by omega) (by omega) (by omega) c0
      obtain ⟨l1, l2, q2, i2, j2⟩ := ih (by omega) b (by omega) (by omega) (by omega)
      obtain ⟨r1, r2, q3, i3, j3⟩ := b61 (n := b) (le := -6300 - 53 * d) (he := 1660 + 14 * d) (lg := -6150 - 53 * d) (hg := 1260 + 14 * d) (i1.mono (by omega) (by omega)) (j1.mono (by omega) (by omega)) i2 j2 (by omega) (by omega)
      obtain ⟨h1, h2, q4, i4, j4⟩ := ih (by omega) a (by omega) (by omega) (by omega)
      obtain ⟨t1, t2, q5, i5, j5⟩ := p37 (n := a) (m := b) (c := c) (upper := false) (one := false) (by omega) (by omega) (by omega) (by omega) c0
      obtain ⟨v1, v2, q6, i6, j6⟩ := most_ok (L := [(t1, t2), (r1, r2)]) (i4.mono (lo' := -6300 - 53 * d - 53) (hi' := 1660 + 14 * d + 10) (by omega) (by omega)) (j4.mono (lo' := -6150 - 53 * d - 53) (hi' := 1260 + 14 * d + 10) (by omega) (by omega)) (by
        intro p hp
        simp only [List.mem_cons, List.not_mem_nil, or_false] at hp
        rcases hp with rfl | rfl
        · exact ⟨i5.mono (by omega) (by omega), j5.mono (by omega) (by omega)⟩
        · exact ⟨i3, j3⟩) (by simp)
      obtain ⟨z1, z2, q7, i7, j7⟩ := b62 i6 j6
      refine ⟨z1, z2, ?_, i7.mono (by omega) (by omega), j7.mono (by omega) (by omega)⟩
      simp only [List.map_cons, List.map_nil] at q6
      clear ih
      refine wpE (F := ir49) (by kernel_rfl) (by kernel_rfl) ?_
      unfold encP at *
      simp [-beq_iff_eq, -beq_eq_false_iff_ne, ir49, hn1, w1, w2, hb, q1, q2, q3, q4, q5, q6, q7]
end Go.Proofs.YtmbdbkcifmkpbaaGreatDoor.Den
