/- Sums, products, what is off: with their bounds. -/
import Derived.Test.YtmbdbkcifmkpbaaGreatDoorCM1

set_option linter.unusedVariables false
set_option linter.unusedSimpArgs false
namespace Go.Proofs.YtmbdbkcifmkpbaaGreatDoor.Den
open Go
open Go.Proofs.YtmbdbkcifmkpbaaGreatDoor.OwnA (u64s normF toldF addF)
set_option maxRecDepth 10000
set_option maxHeartbeats 4000000
attribute [local simp] Ok_true Br_true Br_false rtV exec_none exec_some opV dstB dstW upd_nil upd_cons upd1_at args0_zero args0_succ args0_nil ev cellsV isDead notSelf allCell cellB shrL shr ownsL owns ownE elems frz noLst noLstL outV_ret outV_norm retV resL resV tupV nmL nm boolV isBoolV isSkV binV unV fillV chunk sizesB sizeV List.mapIdx_cons List.mapIdx_nil List.mapIdx List.mapIdx.go List.range List.range.loop List.map_cons List.map_nil Option.isSome_some Option.isSome_none Option.getD_some Option.map_some Option.bind_some Option.map_none Option.bind_none List.append_nil List.nil_append List.cons_append List.isEmpty_nil List.isEmpty_cons Bool.and_true Bool.true_and Bool.and_false Bool.false_and Bool.or_true Bool.or_false Bool.true_or Bool.false_or Bool.not_true Bool.not_false List.length_cons List.length_nil List.take List.drop List.getD_cons_zero List.getD_cons_succ List.getElem?_cons_zero List.getElem?_cons_succ List.replicate List.flatten Wp_skip Wp_exit Wp_ret Wp_kil Wp_reg Wp_dfr Wi_nil Wi_cons Wp_seq Wp_cond Wp_block seqQ_norm seqQ_exit seqQ_ret blkQ_norm blkQ_exit blkQ_ret nrQ_norm nrQ_exit nrQ_ret lpQ_norm lpQ_exit lpQ_ret outQ_norm outQ_ret rgQ_at kilR kil1 kil kilL sets List.set_cons_zero List.set_cons_succ kilR0 frzd isFz ren renL frV frQ_norm frQ_ret retFr shrF shrFL arrV1
attribute [local simp] wrap_id
theorem plus_IV {lo hi : Int} {a : Num} {l : List Num} (ha : IV lo hi a) (hl : ∀ b ∈ l, IV lo hi b) (h0 : -16384 ≤ lo) (h1 : hi + l.length ≤ 16384) (hz : lo ≤ 0) (hz2 : 0 ≤ hi) : ∀ k, k ≤ l.length → IV lo (hi + k) ((l.take k).foldl addN a)
  | 0, _ => by simpa using ha
  | k + 1, hk => by
    have ih := plus_IV ha hl h0 h1 hz hz2 k (by omega)
    rw [List.take_add_one, List.getElem?_eq_getElem (show k < l.length by omega), List.foldl_append]
    have hb := (hl _ (List.getElem_mem (show k < l.length by omega))).mono (lo' := lo) (hi' := hi + k) (by omega) (by omega)
    have := (add_IV ih hb h0 (by omega) hz (by omega)).1
    rw [show hi + ((k + 1 : Nat) : Int) = hi + k + 1 by omega]
    exact this
theorem plus_ok {lo hi : Int} {a : Num} {l : List Num} (ha : IV lo hi a) (hl : ∀ b ∈ l, IV lo hi b) (hlen : l.length ≤ 8) (h0 : -16384 ≤ lo) (h1 : hi + 8 ≤ 16384) (hz : lo ≤ 0) (hz2 : 0 ≤ hi) :
    ∃ c, D E 66 [encN a, .lst (l.map encN)] = some (encN c) ∧ IV lo (hi + l.length) c := by
  refine ⟨_, q66 a l (fun k => (l.take k).foldl addN a) (by simp) (fun k hk => ?_) (by omega), plus_IV ha hl h0 (by omega) hz hz2 l.length (Nat.le_refl _)⟩
  have ih := plus_IV ha hl h0 (by omega) hz hz2 k (by omega)
  have hb := (hl _ (List.getElem_mem hk)).mono (lo' := lo) (hi' := hi + k) (by omega) (by omega)
  have := b83 ih hb h0 (by omega) hz (by omega)
  rw [this]
  simp only [List.take_add_one, List.getElem?_eq_getElem hk, List.foldl_append, Option.toList, List.foldl_cons, List.foldl_nil]
theorem plus1 {lo hi : Int} {a b : Num} (ha : IV lo hi a) (hb : IV lo hi b) (h0 : -16384 ≤ lo := by omega) (h1 : hi + 8 ≤ 16384 := by omega) (hz : lo ≤ 0 := by omega) (hz2 : 0 ≤ hi := by omega) :
    ∃ c, D E 66 [encN a, .lst [encN b]] = some (encN c) ∧ IV lo (hi + 1) c := plus_ok (l := [b]) ha (by simp; exact hb) (by simp) h0 h1 hz hz2
theorem plus2 {lo hi : Int} {a b c : Num} (ha : IV lo hi a) (hb : IV lo hi b) (hc : IV lo hi c) (h0 : -16384 ≤ lo := by omega) (h1 : hi + 8 ≤ 16384 := by omega) (hz : lo ≤ 0 := by omega) (hz2 : 0 ≤ hi := by omega) :
    ∃ d, D E 66 [encN a, .lst [encN b, encN c]] = some (encN d) ∧ IV lo (hi + 2) d := plus_ok (l := [b, c]) ha (by simp; exact ⟨hb, hc⟩) (by simp) h0 h1 hz hz2
theorem plus3 {lo hi : Int} {a b c d : Num} (ha : IV lo hi a) (hb : IV lo hi b) (hc : IV lo hi c) (hd : IV lo hi d) (h0 : -16384 ≤ lo := by omega) (h1 : hi + 8 ≤ 16384 := by omega) (hz : lo ≤ 0 := by omega) (hz2 : 0 ≤ hi := by omega) :
    ∃ e, D E 66 [encN a, .lst [encN b, encN c, encN d]] = some (encN e) ∧ IV lo (hi + 3) e := plus_ok (l := [b, c, d]) ha (by simp; exact ⟨hb, hc, hd⟩) (by simp) h0 h1 hz hz2
theorem times1 {lo hi lo' hi' : Int} {a b : Num} (ha : IV lo hi a) (hb : IV lo' hi' b) (h0 : -16384 ≤ lo + lo' := by omega) (h1 : hi + hi' ≤ 16384 := by omega) (z1 : lo ≤ 0 := by omega) (z2 : lo' ≤ 0 := by omega) (z3 : 0 ≤ hi := by omega) (z4 : 0 ≤ hi' := by omega) :
    ∃ c, D E 65 [encN a, .lst [encN b]] = some (encN c) ∧ IV (lo + lo') (hi + hi') c := by
  refine ⟨mulN a b, ?_, (mul_IV ha hb h0 h1 (by omega) (by omega)).1⟩
  exact q65 a [b] (fun k => if k = 0 then a else mulN a b) (by simp) (fun k hk => by
    have : k = 0 := by simp at hk; omega
    subst this
    simpa using b84 ha hb h0 h1 (by omega) (by omega) (by omega) (by omega) (by omega) (by omega)) (by simp)
theorem times2 {lo hi lo' hi' l3 h3 : Int} {a b c : Num} (ha : IV lo hi a) (hb : IV lo' hi' b) (hc : IV l3 h3 c) (h0 : -16384 ≤ lo + lo' + l3 := by omega) (h1 : hi + hi' + h3 ≤ 16384 := by omega) (z1 : lo ≤ 0 := by omega) (z2 : lo' ≤ 0 := by omega) (z3 : 0 ≤ hi := by omega) (z4 : 0 ≤ hi' := by omega) (z5 : l3 ≤ 0 := by omega) (z6 : 0 ≤ h3 := by omega) :
    ∃ d, D E 65 [encN a, .lst [encN b, encN c]] = some (encN d) ∧ IV (lo + lo' + l3) (hi + hi' + h3) d := by
  have q1 := (mul_IV ha hb (by omega) (by omega) (by omega) (by omega)).1
  refine ⟨mulN (mulN a b) c, ?_, (mul_IV q1 hc h0 h1 (by omega) (by omega)).1⟩
  refine q65 a [b, c] (fun k => if k = 0 then a else if k = 1 then mulN a b else mulN (mulN a b) c) (by simp) (fun k hk => ?_) (by simp)
  have : k = 0 ∨ k = 1 := by simp at hk; omega
  rcases this with rfl | rfl
  · simpa using b84 ha hb (by omega) (by omega) (by omega) (by omega) (by omega) (by omega) (by omega) (by omega)
  · simpa using b84 q1 hc h0 h1 (by omega) (by omega) (by omega) (by omega) (by omega) (by omega)
theorem of_IV {n x : Int} (h0 : 0 ≤ n) (h1 : n ≤ 64) (x0 : -1075 ≤ x) (x1 : x ≤ 0) : IV x 7 (ofN n x) := (ofN_told h0 h1 x0 x1).1
theorem off_ok {lo hi : Int} {a s : Num} {l : List Num} (hs : D E 66 [encN a, .lst (l.map encN)] = some (encN s)) (hS : IV lo hi s) (h0 : -16384 ≤ lo - 53) (h1 : hi + 7 ≤ 16384) (hz : lo ≤ 0) (hz2 : 0 ≤ hi) :
    ∃ c, D E 87 [encN a, .lst (l.map encN)] = some (encN c) ∧ IV (lo - 53) (hi + 7) c := by
  have k2 := q58 1 (-53) (by omega) (by omega) (by omega) (by omega)
  obtain ⟨c, k3, hc⟩ := times1 hS (of_IV (n := 1) (x := -53) (by omega) (by omega) (by omega) (by omega))
  refine ⟨c, ?_, by rw [show lo - 53 = lo + -53 by omega]; exact hc⟩
  refine wpE (F := ir87) (by kernel_rfl) (by kernel_rfl) ?_
  unfold encN enc at *
  simp [-List.map_map, ir87, hs, k2, k3]
theorem off0 {lo hi : Int} {a : Num} (ha : IV lo hi a) (h0 : -16384 ≤ lo - 53 := by omega) (h1 : hi + 7 ≤ 16384 := by omega) (hz : lo ≤ 0 := by omega) (hz2 : 0 ≤ hi := by omega) :
    ∃ c, D E 87 [encN a, .lst []] = some (encN c) ∧ IV (lo - 53) (hi + 7) c := by
  have hs : D E 66 [encN a, .lst []] = some (encN a) := q66 a [] (fun _ => a) rfl (fun k hk => by simp at hk) (by simp)
  have k2 := q58 1 (-53) (by omega) (by omega) (by omega) (by omega)
  obtain ⟨c, k3, hc⟩ := times1 ha (of_IV (n := 1) (x := -53) (by omega) (by omega) (by omega) (by omega))
  refine ⟨c, ?_, by rw [show lo - 53 = lo + -53 by omega]; exact hc⟩
  refine wpE (F := ir87) (by kernel_rfl) (by kernel_rfl) ?_
  unfold encN enc at *
  simp [ir87, hs, k2, k3]
theorem off1 {lo hi : Int} {a b : Num} (ha : IV lo hi a) (hb : IV lo hi b) (h0 : -16384 ≤ lo - 53 := by omega) (h1 : hi + 20 ≤ 16384 := by omega) (hz : lo ≤ 0 := by omega) (hz2 : 0 ≤ hi := by omega) :
    ∃ c, D E 87 [encN a, .lst [encN b]] = some (encN c) ∧ IV (lo - 53) (hi + 8) c := by
  obtain ⟨s, k1, hs⟩ := plus1 ha hb
  obtain ⟨c, k2, hc⟩ := off_ok (l := [b]) k1 hs (by omega) (by omega) (by omega) (by omega)
  exact ⟨c, k2, hc.mono (by omega) (by omega)⟩
theorem off3 {lo hi : Int} {a b c d : Num} (ha : IV lo hi a) (hb : IV lo hi b) (hc : IV lo hi c) (hd : IV lo hi d) (h0 : -16384 ≤ lo - 53 := by omega) (h1 : hi + 20 ≤ 16384 := by omega) (hz : lo ≤ 0 := by omega) (hz2 : 0 ≤ hi := by omega) :
    ∃ o, D E 87 [encN a, .lst [encN b, encN c, encN d]] = some (encN o) ∧ IV (lo - 53) (hi + 10) o := by
  obtain ⟨s, k1, hs⟩ := plus3 ha hb hc hd
  obtain ⟨o, k2, ho⟩ := off_ok (l := [b, c, d]) k1 hs (by omega) (by omega) (by omega) (by omega)
  exact ⟨o, k2, ho.mono (by omega) (by omega)⟩
end Go.Proofs.YtmbdbkcifmkpbaaGreatDoor.Den
