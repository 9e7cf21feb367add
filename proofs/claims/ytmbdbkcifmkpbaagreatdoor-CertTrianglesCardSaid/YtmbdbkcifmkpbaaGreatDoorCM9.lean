/- Bounds, as they are told; their values of two numbers. -/
import Derived.Test.YtmbdbkcifmkpbaaGreatDoorCM8

set_option linter.unusedVariables false
set_option linter.unusedSimpArgs false
namespace Go.Proofs.YtmbdbkcifmkpbaaGreatDoor.Den
open Go
open Go.Proofs.YtmbdbkcifmkpbaaGreatDoor.OwnA (u64s toldF)
set_option maxRecDepth 10000
set_option maxHeartbeats 16000000
attribute [local simp] Ok_true Br_true Br_false rtV exec_none exec_some opV dstB dstW upd_nil upd_cons upd1_at args0_zero args0_succ args0_nil ev cellsV isDead notSelf allCell cellB shrL shr ownsL owns ownE elems frz noLst noLstL outV_ret outV_norm retV resL resV tupV nmL nm boolV isBoolV isSkV binV unV fillV chunk sizesB sizeV List.mapIdx_cons List.mapIdx_nil List.mapIdx List.mapIdx.go List.range List.range.loop List.map_cons List.map_nil Option.isSome_some Option.isSome_none Option.getD_some Option.map_some Option.bind_some Option.map_none Option.bind_none List.append_nil List.nil_append List.cons_append List.isEmpty_nil List.isEmpty_cons Bool.and_true Bool.true_and Bool.and_false Bool.false_and Bool.or_true Bool.or_false Bool.true_or Bool.false_or Bool.not_true Bool.not_false List.length_cons List.length_nil List.take List.drop List.getD_cons_zero List.getD_cons_succ List.getElem?_cons_zero List.getElem?_cons_succ List.replicate List.flatten Wp_skip Wp_exit Wp_ret Wp_kil Wp_reg Wp_dfr Wi_nil Wi_cons Wp_seq Wp_cond Wp_block seqQ_norm seqQ_exit seqQ_ret blkQ_norm blkQ_exit blkQ_ret nrQ_norm nrQ_exit nrQ_ret lpQ_norm lpQ_exit lpQ_ret outQ_norm outQ_ret rgQ_at kilR kil1 kil kilL sets List.set_cons_zero List.set_cons_succ kilR0 frzd isFz ren renL frV frQ_norm frQ_ret retFr shrF shrFL arrV1
attribute [local simp] wrap_id
def badS (n : Int) : Bool := decide (n < 1) || decide (n > 64)
/-- is a side not to be? -/
theorem d36 (c : Int) (l : List Int) (hl : l.length ≤ 100) : D E 36 [.int .i64 c, .lst (l.map (V.int .i64))] = some (.bool (l.any badS || decide (c < 1))) := by
  refine wpE (F := ir36) (by kernel_rfl) (by kernel_rfl) ?_
  simp [ir36]
  refine Wp_loopS _ _ (fun i : Nat => [(9, .int .i64 i)]) (fun i => i ≤ l.length ∧ l.any badS = (l.drop i).any badS) (fun i => l.length - i) 0 ⟨Nat.zero_le _, rfl⟩ (by simp) ?_
  rintro i ⟨hi0, ha⟩
  by_cases hi : i < l.length
  · have hn : (i : Int) < (l.length : Int) := by omega
    have hw : IntKind.i64.wrap ((i : Int) + 1) = (i : Int) + 1 := wrap_id (by omega) (by omega)
    rw [List.drop_eq_getElem_cons hi, List.any_cons] at ha
    by_cases h1 : l[i] < 1
    · have hb : badS l[i] = true := by unfold badS; rw [decide_eq_true h1]; rfl
      rw [hb, Bool.true_or] at ha
      simp [hn, hi, h1, ha]
    · by_cases h2 : 64 < l[i]
      · have hb : badS l[i] = true := by unfold badS; rw [decide_eq_true (show l[i] > 64 from h2), Bool.or_true]
        rw [hb, Bool.true_or] at ha
        simp [hn, hi, h1, h2, ha]
      · have hb : badS l[i] = false := by unfold badS; rw [decide_eq_false h1, decide_eq_false (show ¬ l[i] > 64 from h2)]; rfl
        rw [hb, Bool.false_or] at ha
        simp [hn, hi, h1, h2, hw]
        refine nxt_i _ (i + 1) ⟨hi, ha⟩ (by show l.length - (i + 1) < l.length - i; omega) ?_
        simp
  · have hn : ¬ (i : Int) < (l.length : Int) := by omega
    rw [List.drop_eq_nil_of_le (by omega), List.any_nil] at ha
    rw [ha]
    simp [hn]
theorem d38 (e g : Num) : D E 38 [encP e g] = some (.tup [encP e g, .int .i64 0]) := by
  refine wpE (F := ir38) (by kernel_rfl) (by kernel_rfl) ?_
  unfold encP
  simp [ir38]
theorem badS_ok {n : Int} (h : badS n = false) : 1 ≤ n ∧ n ≤ 64 := by
  unfold badS at h
  simp at h
  omega
theorem IVw {lo hi : Int} {c : Num} (h : IV lo hi c) (h0 : -7000 ≤ lo := by omega) (h1 : hi ≤ 2000 := by omega) : IV (-7000) 2000 c := h.mono h0 h1
theorem IVz : IV (-7000) 2000 zN := IV_zero (by omega) (by omega)
theorem e16 (m k n c : Int) : ∃ e g f, D E 16 [.int .i64 m, .int .i64 k, .int .i64 n, .int .i64 c] = some (.tup [encP e g, .int .i64 f]) ∧ IV (-7000) 2000 e ∧ IV (-7000) 2000 g := by
  have q0 := d36 c [m, k, n] (by simp)
  simp only [List.map_cons, List.map_nil] at q0
  cases hb : ([m, k, n].any badS || decide (c < 1)) with
  | true =>
    rw [hb] at q0
    refine ⟨zN, zN, 4, ?_, IVz, IVz⟩
    refine wpE (F := ir16) (by kernel_rfl) (by kernel_rfl) ?_
    unfold encP zN
    simp [ir16, q0]
  | false =>
    rw [hb] at q0
    simp only [List.any_cons, List.any_nil, Bool.or_eq_false_iff, decide_eq_false_iff_not] at hb
    obtain ⟨⟨b1, b2, b3, _⟩, b4⟩ := hb
    have b1 := badS_ok b1
    have b2 := badS_ok b2
    have b3 := badS_ok b3
    obtain ⟨e, g, q1, i1, i2⟩ := p44 (m := m) (k := k) (n := n) (c := c) b1.1 b1.2 b2.1 b2.2 b3.1 b3.2 (by omega)
    refine ⟨e, g, 0, ?_, IVw i1, IVw i2⟩
    have q2 := d38 e g
    refine wpE (F := ir16) (by kernel_rfl) (by kernel_rfl) ?_
    unfold encP at *
    simp [ir16, q0, q1, q2]
theorem e12 (n m c : Int) (u t : Bool) : ∃ e g f, D E 12 [.int .i64 n, .int .i64 m, .bool u, .bool t, .int .i64 c] = some (.tup [encP e g, .int .i64 f]) ∧ IV (-7000) 2000 e ∧ IV (-7000) 2000 g := by
  have q0 := d36 c [n, m] (by simp)
  simp only [List.map_cons, List.map_nil] at q0
  cases hb : ([n, m].any badS || decide (c < 1)) with
  | true =>
    rw [hb] at q0
    refine ⟨zN, zN, 4, ?_, IVz, IVz⟩
    refine wpE (F := ir12) (by kernel_rfl) (by kernel_rfl) ?_
    unfold encP zN
    simp [ir12, q0]
  | false =>
    rw [hb] at q0
    simp only [List.any_cons, List.any_nil, Bool.or_eq_false_iff, decide_eq_false_iff_not] at hb
    obtain ⟨⟨b1, b2, _⟩, b4⟩ := hb
    have b1 := badS_ok b1
    have b2 := badS_ok b2
    obtain ⟨e, g, q1, i1, i2⟩ := p37 (n := n) (m := m) (c := c) (upper := u) (one := t) b1.1 b1.2 b2.1 b2.2 (by omega)
    refine ⟨e, g, 0, ?_, IVw i1, IVw i2⟩
    have q2 := d38 e g
    refine wpE (F := ir12) (by kernel_rfl) (by kernel_rfl) ?_
    unfold encP at *
    simp [ir12, q0, q1, q2]
theorem e19 (m n c : Int) : ∃ e g f, D E 19 [.int .i64 m, .int .i64 n, .int .i64 c] = some (.tup [encP e g, .int .i64 f]) ∧ IV (-7000) 2000 e ∧ IV (-7000) 2000 g := by
  have q0 := d36 c [m, n] (by simp)
  simp only [List.map_cons, List.map_nil] at q0
  cases hb : ([m, n].any badS || decide (c < 1)) with
  | true =>
    rw [hb] at q0
    refine ⟨zN, zN, 4, ?_, IVz, IVz⟩
    refine wpE (F := ir19) (by kernel_rfl) (by kernel_rfl) ?_
    unfold encP zN
    simp [ir19, q0]
  | false =>
    rw [hb] at q0
    simp only [List.any_cons, List.any_nil, Bool.or_eq_false_iff, decide_eq_false_iff_not] at hb
    obtain ⟨⟨b1, b2, _⟩, b4⟩ := hb
    have b1 := badS_ok b1
    have b2 := badS_ok b2
    by_cases hmn : m < n
    · refine ⟨zN, zN, 4, ?_, IVz, IVz⟩
      refine wpE (F := ir19) (by kernel_rfl) (by kernel_rfl) ?_
      unfold encP zN
      simp [ir19, q0, hmn]
    · have e6 : (2 : Int) ^ 6 = 64 := by rfl
      obtain ⟨e, g, q1, i1, i2⟩ := b46 c (by omega) 6 (by omega) m n b2.1 (by omega) (by omega) b1.2
      refine ⟨e, g, 0, ?_, IVw i1, IVw i2⟩
      have q2 := d38 e g
      refine wpE (F := ir19) (by kernel_rfl) (by kernel_rfl) ?_
      unfold encP at *
      simp [ir19, q0, hmn, q1, q2]
theorem e23 (n c : Int) : ∃ e g f, D E 23 [.int .i64 n, .int .i64 c] = some (.tup [encP e g, .int .i64 f]) ∧ IV (-7000) 2000 e ∧ IV (-7000) 2000 g := by
  have q0 := d36 c [n] (by simp)
  simp only [List.map_cons, List.map_nil] at q0
  cases hb : ([n].any badS || decide (c < 1)) with
  | true =>
    rw [hb] at q0
    refine ⟨zN, zN, 4, ?_, IVz, IVz⟩
    refine wpE (F := ir23) (by kernel_rfl) (by kernel_rfl) ?_
    unfold encP zN
    simp [ir23, q0]
  | false =>
    rw [hb] at q0
    simp only [List.any_cons, List.any_nil, Bool.or_eq_false_iff, decide_eq_false_iff_not] at hb
    obtain ⟨⟨b1, _⟩, b4⟩ := hb
    have b1 := badS_ok b1
    have e6 : (2 : Int) ^ 6 = 64 := by rfl
    obtain ⟨e, g, q1, i1, i2⟩ := b49 c (by omega) 6 (by omega) n b1.1 (by omega) b1.2
    refine ⟨e, g, 0, ?_, IVw i1, IVw i2⟩
    have q2 := d38 e g
    refine wpE (F := ir23) (by kernel_rfl) (by kernel_rfl) ?_
    unfold encP at *
    simp [ir23, q0, q1, q2]
/-! the value -/
theorem d63 (l : List Num) (hl : l.length ≤ 100) (hg : ∀ c ∈ l, GN c) : D E 63 [.lst (l.map encN)] = some (.int .i64 0) := by
  refine wpE (F := ir63) (by kernel_rfl) (by kernel_rfl) ?_
  simp [ir63]
  refine Wp_loopS _ _ (fun i : Nat => [(8, .int .i64 i)]) (fun i => i ≤ l.length) (fun i => l.length - i) 0 (Nat.zero_le _) (by simp) ?_
  intro i hi0
  by_cases hi : i < l.length
  · have hn : (i : Int) < (l.length : Int) := by omega
    have hw : IntKind.i64.wrap ((i : Int) + 1) = (i : Int) + 1 := wrap_id (by omega) (by omega)
    have hc := hg _ (List.getElem_mem hi)
    have h1 := d71 (l[i]'hi).n (l[i]'hi).l (l[i]'hi).x (by have := hc.n; omega)
    rw [show OwnA.checkF (l[i]'hi).l (l[i]'hi).x = 0 from Gd.chk hc] at h1
    unfold enc at h1
    simp [hn, hi, hw, h1, encN, enc]
    refine nxt_i _ (i + 1) hi (by show l.length - (i + 1) < l.length - i; omega) ?_
    simp
  · have hn : ¬ (i : Int) < (l.length : Int) := by omega
    simp [hn]
/-- A BOUND'S VALUE: nothing panics. -/
theorem b40 {e g p q : Num} (w : Bool) (hE : IV (-7000) 2000 e) (hG : IV (-7000) 2000 g) (hp : IV (-2200) 2200 p) (hq : IV (-2200) 2200 q) :
    ∃ v, D E 40 [encP e g, encN p, encN q, .bool w] = some (.tup [encN v, .int .i64 0]) ∧ GN v := by
  have k0 := d63 [e, g, p, q] (by simp) (by
    intro c hc
    simp only [List.mem_cons, List.not_mem_nil, or_false] at hc
    rcases hc with rfl | rfl | rfl | rfl
    · exact IV_G hE (by omega) (by omega)
    · exact IV_G hG (by omega) (by omega)
    · exact IV_G hp (by omega) (by omega)
    · exact IV_G hq (by omega) (by omega))
  have k1 := q58 1 0 (by omega) (by omega) (by omega) (by omega)
  obtain ⟨t, k2, i2⟩ := times2 hE hp hq
  have fin : ∀ g', IV (-11400) 6402 g' → ∃ v s, D E 66 [encN t, .lst [encN g']] = some (encN s) ∧ D E 68 [encN s] = some (.tup [encN v, .int .i64 0]) ∧ D E 67 [encN v, .int .i64 0] = some (encN v) ∧ GN v := by
    intro g' hg'
    obtain ⟨s, k3, i3⟩ := plus1 (i2.mono (lo' := -11400) (hi' := 6402) (by omega) (by omega)) hg'
    have gs := IV_G i3 (by omega) (by omega)
    have hn := i3.n
    have told := told_IV (lo := -11400) (hi := 6402 + 1) i3.u (by have := i3.len; omega) (by omega) (by omega) (by omega) (by omega) i3.bl i3.bh i3.v
    have k4 := d55 s.n s.l s.x gs
    rw [hn, told.2] at k4
    refine ⟨numD (toldF false s.l s.x), s, k3, ?_, q67 _, IV_G told.1 (by omega) (by omega)⟩
    unfold encN
    rw [hn]
    exact k4
  cases w with
  | false =>
    obtain ⟨v, s, k3, k4, k5, gv⟩ := fin g (hG.mono (by omega) (by omega))
    refine ⟨v, ?_, gv⟩
    clear fin
    refine wpE (F := ir40) (by kernel_rfl) (by kernel_rfl) ?_
    simp only [List.map_cons, List.map_nil] at k0
    unfold encN enc at *
    unfold encP
    simp [ir40, k0, k1, k2, k3, k4, k5]
  | true =>
    obtain ⟨x, k6, i6⟩ := plus1 (f_n (lo := -2200) (hi := 2200) (n := 1)) hp
    obtain ⟨y, k7, i7⟩ := plus1 (f_n (lo := -2200) (hi := 2200) (n := 1)) hq
    obtain ⟨g', k8, i8⟩ := times2 hG i6 i7
    obtain ⟨v, s, k3, k4, k5, gv⟩ := fin g' (i8.mono (by omega) (by omega))
    refine ⟨v, ?_, gv⟩
    clear fin
    refine wpE (F := ir40) (by kernel_rfl) (by kernel_rfl) ?_
    simp only [List.map_cons, List.map_nil] at k0
    unfold encN enc at *
    unfold encP
    simp [ir40, k0, k1, k2, k3, k4, k5, k6, k7, k8]
theorem c42 {e g : Num} (x y : Mt) (w : Bool) (hE : IV (-7000) 2000 e) (hG : IV (-7000) 2000 g) (ux : u64s x.l) (uy : u64s y.l) (lx : x.l.length ≤ 100000) (ly : y.l.length ≤ 100000) :
    ∃ v, D E 42 [encP e g, encM x, encM y, .bool w] = some (.tup [encN v, .int .i64 0]) ∧ D E 13 [encP e g, encM x, encM y, .bool w, .int .i64 0] = some (.tup [encN v, .int .i64 0]) ∧ GN v := by
  obtain ⟨p, e1, k1, i1⟩ := p39 x ux lx
  obtain ⟨q, e2, k2, i2⟩ := p39 y uy ly
  obtain ⟨v, k3, gv⟩ := b40 w hE hG i1 i2
  refine ⟨v, ?_, ?_, gv⟩
  · refine wpE (F := ir42) (by kernel_rfl) (by kernel_rfl) ?_
    unfold encN enc encM mat at *
    unfold encP at *
    simp [ir42, k1, k2, k3]
  · refine wpE (F := ir13) (by kernel_rfl) (by kernel_rfl) ?_
    unfold encN enc encM mat at *
    unfold encP at *
    simp [ir13, k1, k2, k3]
theorem d13e (x y : Mt) (e g : Num) (w : Bool) (f : Int) (hf : f ≠ 0) : D E 13 [encP e g, encM x, encM y, .bool w, .int .i64 f] = some (.tup [encN zN, .int .i64 f]) := by
  refine wpE (F := ir13) (by kernel_rfl) (by kernel_rfl) ?_
  unfold encN enc encM mat encP zN
  simp [ir13, hf]
theorem d8 (e f : Int) : D E 8 [.int .i64 e, .int .i64 f] = some (.int .i64 (if e = 0 then f else e)) := by
  refine wpE (F := ir8) (by kernel_rfl) (by kernel_rfl) ?_
  by_cases h : e = 0
  · subst h; simp [ir8]
  · simp [ir8, h]
/-- a report -/
def encR (b o : Num) (h : Bool) : V := .agg [.bool b.n, .lst (b.l.map (V.int .u64)), .int .i64 b.x, .bool o.n, .lst (o.l.map (V.int .u64)), .int .i64 o.x, .bool h]
theorem c43 {v o : Num} (gv : GN v) (go : GN o) : D E 43 [encN v, encN o, .int .i64 0] = some (.tup [encR v o (decide (cmpN o v ≤ 0)), .int .i64 0]) := by
  refine wpE (F := ir43) (by kernel_rfl) (by kernel_rfl) ?_
  have h1 := c33 go gv
  unfold encN enc at *
  unfold encR
  simp [ir43, h1]
end Go.Proofs.YtmbdbkcifmkpbaaGreatDoor.Den
