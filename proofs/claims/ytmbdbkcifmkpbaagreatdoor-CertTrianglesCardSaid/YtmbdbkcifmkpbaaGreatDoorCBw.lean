/- Parts of the proof, joined: Matrices, walked: a new one. Rows that change places, walked: may they? Rows that change places, walked: two rows. Rows that change places, walked: from the first on. How many bits a natural has; whether a product is done in seven parts; a deferred function that does nothing. -/
import Derived.Test.YtmbdbkcifmkpbaaGreatDoorCA
import Derived.BigRegion
import Derived.BigQuiet
import Derived.Deep.QuietTactic
import Derived.Recover
section
set_option linter.unusedVariables false
set_option linter.unusedSimpArgs false
namespace Go.Proofs.YtmbdbkcifmkpbaaGreatDoor.OwnA
open Go.RowKit Go.Proofs.YtmbdbkcifmkpbaaGreatDoorW.PrintWords Go.Proofs.YtmbdbkcifmkpbaaGreatDoorW.PrintLast Go.Proofs.YtmbdbkcifmkpbaaGreatDoorW.PrintMore
set_option maxHeartbeats 800000 in
set_option maxRecDepth 100000 in
theorem new_calls (r c : Int) (m : Nat) (w : World) (hr : sideB r = true) (hc : sideB c = true) (hm : r * c = m) :
    Calls Tryz.prog 29 #[.int .i64 r, .int .i64 c] w fun e w' => ∃ v, e = .returned (.tuple #[.agg #[.int .i64 r, .int .i64 c, v], .int .i64 0]) ∧ Kd.R (Kd.int .u64) 58 w' w.heap.size (fun _ => True) v (List.replicate m 0) ∧ Below w.heap.size w w' := by
  have r1 := (sideB_iff.1 hr).1
  have r2 := (sideB_iff.1 hr).2
  have c1 := (sideB_iff.1 hc).1
  have c2 := (sideB_iff.1 hc).2
  have m0 : 0 < r * c := Int.mul_pos (by omega) (by omega)
  have m1 : r * c ≤ 4096 := by
    have := Int.mul_le_mul r2 c2 (by omega) (by omega)
    omega
  have HR := Aside0.mk hr
  have HC := Aside0.mk hc
  have HM := Aside0.mk hm
  have HB := Aside0.mk (Below.refl w.heap.size w)
  have S1 := fun wx => side_calls r wx
  have S2 := fun wx => side_calls c wx
  rw [hr] at S1
  rw [hc] at S2
  have HS1 := Aside0.mk S1
  have HS2 := Aside0.mk S2
  clear S1 S2 hr hc
  generalize hp : r * c = p at *
  subst hm
  go_enter Tryz.func29, Tryz.ntmps29
  go_wp2_with fail
  refine (HS1.out _).mono ?_
  rintro e w1 ⟨rfl, hw1⟩
  subst hw1
  go_wp2_with fail
  refine (HS2.out _).mono ?_
  rintro e w1 ⟨rfl, hw1⟩
  subst hw1
  have HY := Aside0.mk (World.alloc_heap_new w (.cells #[.int .i64 0, .int .i64 0, .slice none 0 0] 24 (0, 0)))
  generalize hwL : World.alloc _ _ = wL at *
  clear HB
  have HB := Aside0.mk (show Below w.heap.size w wL by rw [← hwL]; exact (Below.refl w.heap.size w).alloc (Nat.le_refl _) _)
  clear hwL
  have HGO : ∀ (W : World) (g cap : Nat), W.heap[w.heap.size]? = some (.cells #[.int .i64 0, .int .i64 0, .slice none 0 0] 24 (0, 0)) → Kd.R (Kd.int .u64) 58 W wL.heap.size (fun _ => True) (.slice (some ⟨g, 0, none⟩) m cap) (List.replicate m 0) → Below w.heap.size w W →
      ∀ T : Array Value, T.getD 4 undef = .pointer (some ⟨w.heap.size, 0, none⟩) → T.getD 5 undef = .int .i64 0 → bodyPost Tryz.prog Tryz.f29 (fun e w' => ∃ v, e = .returned (.tuple #[.agg #[.int .i64 r, .int .i64 c, v], .int .i64 0]) ∧ Kd.R (Kd.int .u64) 58 w' w.heap.size (fun _ => True) v (List.replicate m 0) ∧ Below w.heap.size w w') .ret { tmps := T, defers := [] } (((W.setCell ⟨w.heap.size, 0, none⟩ (.int .i64 r)).setCell ⟨w.heap.size, 1, none⟩ (.int .i64 c)).setCell ⟨w.heap.size, 2, none⟩ (.slice (some ⟨g, 0, none⟩) m cap)) := by
    intro W g cap h1 h2 h3 T h4 h5
    have p0 := blk_put h1 0 (.int .i64 r) rfl
    have p1 := blk_put (cs := #[.int .i64 r, .int .i64 0, .slice none 0 0]) p0 1 (.int .i64 c) rfl
    have p2 := blk_put (cs := #[.int .i64 r, .int .i64 c, .slice none 0 0]) p1 2 (.slice (some ⟨g, 0, none⟩) m cap) rfl
    have q0 := Kd.R_set h2 h1 (fun q hq => by revert q; decide) 0 (.int .i64 r)
    have q1 := Kd.R_set q0 p0 (fun q hq => by revert q; decide) 1 (.int .i64 c)
    have q2 := Kd.R_set q1 p1 (fun q hq => by revert q; decide) 2 (.slice (some ⟨g, 0, none⟩) m cap)
    refine bodyPost_ret (results_ct rfl T _ w.heap.size 24 _ (0, 0) _ h4 p2 Tryz.underlying24 rfl (by kernel_rfl)) rfl ?_
    exact ⟨_, by rw [h5]; rfl, Kd.R_lower q2 (below_size HB.out), below_set (below_set (below_set h3 (Nat.le_refl _)) (Nat.le_refl _)) (Nat.le_refl _)⟩
  have HG := Aside0.mk HGO
  clear HGO
  go_wp2_with (first | ((with_reducible refine gate_dst (N := 20) rfl ?_); refine Kd.R_make (w0 := wL) (Kd.int .u64) wL.heap.size 58 rfl (N := 20) rfl 22 _ _ rfl (m : Int) ?hx1 ?hx2 Tryz.underlying22 (.int .u64 0) 8 info58 rfl (by decide) (by omega) 0 (ok := fun _ => True) (okp := fun _ => True) rfl (fun _ hk => hk) trivial (by omega) (by omega) (Below.refl _ _) (Nat.le_refl _) ?_; (case hx1 => first | rfl | (simp; done) | skip); (case hx2 => first | rfl | (simp; done) | skip); intro v0 w1 ho hb hg_ hnew_; rw [show ((m : Int)).toNat = m by omega] at ho; obtain ⟨g, cap, rfl, hg, _, _⟩ := Kd.R_form ho (by simp; omega); (try rw [show (List.replicate m (0 : Int)).length = m by simp] at ho); (try rw [show (List.replicate m (0 : Int)).length = m by simp]); have HO := Aside0.mk ho; have HB1 := Aside0.mk hb; have h1 := (hb.block _ (blk_lt HY.out)).trans HY.out; have HY1 := Aside0.mk h1; obtain ⟨a0, a1, a2, f0, f1, f2⟩ := (show w1.cell? ⟨w.heap.size, 0, none⟩ = some (.int .i64 0) ∧ w1.cell? ⟨w.heap.size, 1, none⟩ = some (.int .i64 0) ∧ w1.cell? ⟨w.heap.size, 2, none⟩ = some (.slice none 0 0) ∧ w1.frozen? ⟨w.heap.size, 0, none⟩ = false ∧ w1.frozen? ⟨w.heap.size, 1, none⟩ = false ∧ w1.frozen? ⟨w.heap.size, 2, none⟩ = false from ⟨blk_cell h1 0, blk_cell h1 1, blk_cell h1 2, blk_frozen h1 0, blk_frozen h1 1, blk_frozen h1 2⟩); clear h1 ho hb hg_ hnew_ hg))
  exact HG.out _ _ _ HY1.out HO.out (below_step HB.out HB1.out) _ rfl rfl
end Go.Proofs.YtmbdbkcifmkpbaaGreatDoor.OwnA
end
section
set_option linter.unusedVariables false
set_option linter.unusedSimpArgs false
namespace Go.Proofs.YtmbdbkcifmkpbaaGreatDoor.OwnA
open Go.RowKit Go.Proofs.YtmbdbkcifmkpbaaGreatDoorW.PrintWords Go.Proofs.YtmbdbkcifmkpbaaGreatDoorW.PrintLast Go.Proofs.YtmbdbkcifmkpbaaGreatDoorW.PrintMore
def rowB (r k : Int) : Bool := decide (0 ≤ k) && decide (k < r)
set_option maxHeartbeats 800000 in
theorem prow_calls (r c k : Int) (A : Option Addr) (n cc : Nat) (w : World) :
    Calls Tryz.prog 100 #[.agg #[.int .i64 r, .int .i64 c, .slice A n cc], .int .i64 k] w fun e w' => e = .returned (.bool (rowB r k)) ∧ Below w.heap.size w w' := by
  obtain ⟨wL, hwL⟩ : ∃ wL : World, wL = w.alloc (.cells #[.int .i64 r, .int .i64 c, .slice A n cc] 24) := ⟨_, rfl⟩
  have HB := Aside0.mk (show Below w.heap.size w wL by rw [hwL]; exact (Below.refl w.heap.size w).alloc (Nat.le_refl _) _)
  have HY := Aside0.mk (show wL.heap[w.heap.size]? = some (.cells #[.int .i64 r, .int .i64 c, .slice A n cc] 24 (0, 0)) by rw [hwL]; exact World.alloc_heap_new w _)
  have a0 : wL.cell? ⟨w.heap.size, 0, none⟩ = some (.int .i64 r) := blk_cell HY.out 0
  by_cases h : 0 ≤ k
  · have b1 : decide (k ≥ 0) = true := decide_eq_true h
    have b2 : decide (0 ≤ k) = true := decide_eq_true h
    go_enter Tryz.func100, Tryz.ntmps100
    go_wp2_with fail
    rw [← hwL]
    clear hwL
    go_wp2
    go_ret
    exact ⟨by unfold rowB; rw [b2]; rfl, HB.out⟩
  · have b1 : decide (k ≥ 0) = false := decide_eq_false (by omega)
    have b2 : decide (0 ≤ k) = false := decide_eq_false (by omega)
    go_enter Tryz.func100, Tryz.ntmps100
    go_wp2_with fail
    rw [← hwL]
    clear hwL
    go_wp2
    go_ret
    exact ⟨by unfold rowB; rw [b2]; rfl, HB.out⟩
set_option maxHeartbeats 800000 in
theorem clo_calls (r c k : Int) (A : Option Addr) (n cc g : Nat) (w : World) (hY : w.heap[g]? = some (.cells #[.int .i64 r, .int .i64 c, .slice A n cc] 24 (0, 0))) :
    Calls Tryz.prog 99 #[.int .i64 k, .pointer (some ⟨g, 0, none⟩)] w fun e w' => e = .returned (.bool (!rowB r k)) ∧ Below w.heap.size w w' := by
  have a0 : w.cell? ⟨g, 0, none⟩ = some (.int .i64 r) := blk_cell hY 0
  have a1 : w.cell? ⟨g, 1, none⟩ = some (.int .i64 c) := blk_cell hY 1
  have a2 : w.cell? ⟨g, 2, none⟩ = some (.slice A n cc) := blk_cell hY 2
  have HB := Aside0.mk (Below.refl w.heap.size w)
  go_enter Tryz.func99, Tryz.ntmps99
  go_wp2_with fail
  refine (prow_calls r c k A n cc w).mono ?_
  rintro e w1 ⟨rfl, hB⟩
  have HB1 := Aside0.mk hB
  clear hB a0 a1 a2
  go_wp2
  go_ret
  exact ⟨rfl, HB1.out⟩
def anyOut (r : Int) (l : List Int) : Bool := l.any fun k => !rowB r k
set_option maxHeartbeats 1600000 in
set_option maxRecDepth 100000 in
theorem index2_calls (r c : Int) (A' : Option Addr) (n cc g : Nat) (A : Option Addr) (cs : Nat) (l : List Int) (w : World) (hl : l.length ≤ 100000) (hc : l.length ≤ cs) (hY : w.heap[g]? = some (.cells #[.int .i64 r, .int .i64 c, .slice A' n cc] 24 (0, 0))) (hr : Kd.C (Kd.int .i64) w A l.length l) :
    Calls Tryz.prog 114 #[.slice A l.length cs, .func (.func 99) #[] #[.pointer (some ⟨g, 0, none⟩)]] w fun e w' => ∃ k : Int, e = .returned (.int .i64 k) ∧ decide (0 ≤ k) = anyOut r l ∧ Below w.heap.size w w' := by
  have HR := Aside0.mk hr
  have HY := Aside0.mk hY
  clear hr hY
  have HB := Aside0.mk (Below.refl w.heap.size w)
  go_enter Tryz.func114, Tryz.ntmps114
  go_wp2
  go_loopw [5, 8] (fun v5 v8 wr => ∃ i : Nat, i ≤ l.length ∧ v8 = .int .i64 i ∧ Aside0 (anyOut r (l.take i) = false) ∧ Aside0 (Below w.heap.size w wr)) (fun _ v8 _ => l.length - (intOf v8).toNat)
  case atStart => exact ⟨0, Nat.zero_le _, rfl, ⟨by simp [anyOut]⟩, HB⟩
  case round =>
    clear HB
    obtain ⟨i, hi, rfl, HS, HB⟩ := hrel
    by_cases hlt : i < l.length
    · have b1 : decide (i < l.length) = true := decide_eq_true hlt
      have b2 : decide ((i : Int) < l.length) = true := decide_eq_true (by omega)
      have HRR := Aside0.mk (Kd.C_below HR.out HB.out)
      have HYY := Aside0.mk (show wr.heap[g]? = some (.cells #[.int .i64 r, .int .i64 c, .slice A' n cc] 24 (0, 0)) from (HB.out.block _ (blk_lt HY.out)).trans HY.out)
      obtain ⟨ad, rfl, hx⟩ := Kd.at_int HRR.out (i : Int) (by omega) (by omega)
      rw [Int.toNat_natCast] at hx
      have e : rd l i = l[i] := by unfold rd; rw [Int.toNat_natCast, List.getD_eq_getElem?_getD, List.getElem?_eq_getElem hlt, Option.getD_some]
      have HN := Aside0.mk (show anyOut r (l.take (i + 1)) = !rowB r (rd l i) by
        rw [e]
        unfold anyOut
        rw [List.take_succ_eq_append_getElem hlt, List.any_append, show List.any (l.take i) (fun k => !rowB r k) = false from HS.out]
        simp)
      have HM := Aside0.mk (show (!rowB r (rd l i)) = true → anyOut r l = true by
        rw [e]
        intro h
        exact List.any_eq_true.2 ⟨_, List.getElem_mem hlt, h⟩)
      have HC := Aside0.mk (clo_calls r c (rd l i) A' n cc g wr HYY.out)
      clear e
      generalize rd l i = x at *
      by_cases hz : (!rowB r x) = true
      · have HA := Aside0.mk (HM.out hz)
        rw [hz] at HC
        clear HM HN hz
        go_wp2_with (first | (go_at_call 99; (with_reducible refine HC.out.mono ?_); rintro e w' ⟨rfl, hB1⟩; have HB1 := Aside0.mk (below_step HB.out hB1); clear hB1))
        go_ret
        exact ⟨_, rfl, by rw [HA.out]; exact decide_eq_true (by omega), HB1.out⟩
      · have hz' : (!rowB r x) = false := by simpa using hz
        rw [hz'] at HC HN
        clear HM hz hz'
        go_wp2_with (first | (go_at_call 99; (with_reducible refine HC.out.mono ?_); rintro e w' ⟨rfl, hB1⟩; have HB1 := Aside0.mk (below_step HB.out hB1); clear hB1))
        go_roundw
        case rel => exact ⟨i + 1, by omega, by first | rfl | go_num, HN, HB1⟩
        case measure => (simp [intOf] <;> omega)
    · obtain rfl : i = l.length := by omega
      have b1 : decide (l.length < l.length) = false := by simp
      have b2 : decide ((l.length : Int) < l.length) = false := by simp
      have HE := Aside0.mk (show anyOut r l = false by
        have h := HS.out
        rwa [List.take_length] at h)
      go_wp2
      go_ret
      exact ⟨_, rfl, by rw [HE.out]; rfl, HB.out⟩
set_option maxHeartbeats 800000 in
theorem contains2_calls (r c : Int) (A' : Option Addr) (n cc g : Nat) (A : Option Addr) (cs : Nat) (l : List Int) (w : World) (hl : l.length ≤ 100000) (hc : l.length ≤ cs) (hY : w.heap[g]? = some (.cells #[.int .i64 r, .int .i64 c, .slice A' n cc] 24 (0, 0))) (hr : Kd.C (Kd.int .i64) w A l.length l) :
    Calls Tryz.prog 98 #[.slice A l.length cs, .func (.func 99) #[] #[.pointer (some ⟨g, 0, none⟩)]] w fun e w' => e = .returned (.bool (anyOut r l)) ∧ Below w.heap.size w w' := by
  have HR := Aside0.mk hr
  have HY := Aside0.mk hY
  clear hr hY
  go_enter Tryz.func98, Tryz.ntmps98
  go_wp2_with fail
  refine (index2_calls r c A' n cc g A cs l w hl hc HY.out HR.out).mono ?_
  rintro e w1 ⟨k, rfl, hk, hB⟩
  have HK := Aside0.mk (show decide (k ≥ 0) = anyOut r l from hk)
  have HB := Aside0.mk hB
  clear hk hB
  go_wp2
  go_ret
  exact ⟨by rw [← HK.out]; rfl, HB.out⟩
/-- may rows change places so? -/
def readyF (r c : Int) (n : Nat) (l : List Int) : Int := if fits r c n then (if decide (r < l.length) || anyOut r l then 4 else 0) else 11
set_option maxHeartbeats 1600000 in
set_option maxRecDepth 100000 in
theorem ready_calls (r k : Int) (A' : Option Addr) (n cc : Nat) (A : Option Addr) (cs : Nat) (l : List Int) (w : World) (hc : l.length ≤ cs) (hr : Kd.C (Kd.int .i64) w A l.length l) :
    Calls Tryz.prog 76 #[.agg #[.int .i64 r, .int .i64 k, .slice A' n cc], .slice A l.length cs] w fun e w' => e = .returned (.int .i64 (readyF r k n l)) ∧ Below w.heap.size w w' := by
  obtain ⟨R, hR⟩ : ∃ R : Int, readyF r k n l = R := ⟨_, rfl⟩
  rw [hR]
  have HF := Aside0.mk (show R = if fits r k n then (if decide (r < l.length) || anyOut r l then 4 else 0) else 11 by rw [← hR]; rfl)
  clear hR
  obtain ⟨wL, hwL⟩ : ∃ wL : World, wL = w.alloc (.cells #[.int .i64 r, .int .i64 k, .slice A' n cc] 24) := ⟨_, rfl⟩
  have hB : Below w.heap.size w wL := by rw [hwL]; exact (Below.refl w.heap.size w).alloc (Nat.le_refl _) _
  have hY : wL.heap[w.heap.size]? = some (.cells #[.int .i64 r, .int .i64 k, .slice A' n cc] 24 (0, 0)) := by rw [hwL]; exact World.alloc_heap_new w _
  have a0 : wL.cell? ⟨w.heap.size, 0, none⟩ = some (.int .i64 r) := blk_cell hY 0
  have a1 : wL.cell? ⟨w.heap.size, 1, none⟩ = some (.int .i64 k) := blk_cell hY 1
  have a2 : wL.cell? ⟨w.heap.size, 2, none⟩ = some (.slice A' n cc) := blk_cell hY 2
  have HR := Aside0.mk (Kd.C_below hr hB)
  have HB := Aside0.mk hB
  have HY := Aside0.mk hY
  clear hB hY hr
  go_enter Tryz.func76, Tryz.ntmps76
  go_wp2_with fail
  rw [← hwL]
  clear hwL
  refine (shape_calls r k A' cc n wL).mono ?_
  rintro e w1 ⟨rfl, hB1⟩
  have hY1 : w1.heap[w.heap.size]? = some (.cells #[.int .i64 r, .int .i64 k, .slice A' n cc] 24 (0, 0)) := (hB1.block _ (blk_lt HY.out)).trans HY.out
  have c0 : w1.cell? ⟨w.heap.size, 0, none⟩ = some (.int .i64 r) := blk_cell hY1 0
  have HR1 := Aside0.mk (Kd.C_below HR.out hB1)
  have HY1 := Aside0.mk hY1
  have HB1 := Aside0.mk (below_step HB.out hB1)
  clear hB1 hY1 HR HB HY a0 a1 a2
  by_cases h1 : fits r k n = true
  · rw [h1] at HF ⊢
    by_cases h2 : r < l.length
    · have b1 : decide ((l.length : Int) > r) = true := decide_eq_true h2
      have b2 : decide (r < (l.length : Int)) = true := decide_eq_true h2
      go_wp2
      go_ret
      exact ⟨by rw [HF.out, b2]; rfl, HB1.out⟩
    · have hl : l.length ≤ 100000 := by
        unfold fits at h1
        rw [Bool.and_eq_true, Bool.and_eq_true, sideB_iff, sideB_iff] at h1
        omega
      have b1 : decide ((l.length : Int) > r) = false := decide_eq_false h2
      have b2 : decide (r < (l.length : Int)) = false := decide_eq_false h2
      go_wp2_with fail
      refine (contains2_calls r k A' n cc w.heap.size A cs l w1 hl hc HY1.out HR1.out).mono ?_
      rintro e w2 ⟨rfl, hB2⟩
      have HB2 := Aside0.mk (below_step HB1.out hB2)
      clear hB2
      by_cases h3 : anyOut r l = true
      · rw [h3] at HF ⊢
        go_wp2
        go_ret
        exact ⟨by rw [HF.out, b2]; rfl, HB2.out⟩
      · have h3' : anyOut r l = false := by simpa using h3
        rw [h3'] at HF ⊢
        go_wp2
        go_ret
        exact ⟨by rw [HF.out, b2]; rfl, HB2.out⟩
  · have h1' : fits r k n = false := by simpa using h1
    rw [h1'] at HF ⊢
    go_wp2
    go_ret
    exact ⟨by rw [HF.out]; rfl, HB1.out⟩
end Go.Proofs.YtmbdbkcifmkpbaaGreatDoor.OwnA
end
section
set_option linter.unusedVariables false
set_option linter.unusedSimpArgs false
namespace Go.Proofs.YtmbdbkcifmkpbaaGreatDoor.OwnA
open Go.RowKit Go.Proofs.YtmbdbkcifmkpbaaGreatDoorW.PrintWords Go.Proofs.YtmbdbkcifmkpbaaGreatDoorW.PrintLast Go.Proofs.YtmbdbkcifmkpbaaGreatDoorW.PrintMore
/-- two words change places -/
def swp (L : List Int) (p q : Nat) : List Int := (L.set p (rd L q)).set q (rd L p)
def swL (c i k : Nat) (l : List Int) : Nat → List Int
  | 0 => l
  | j + 1 => swp (swL c i k l j) (i * c + j) (k * c + j)
theorem swL_len (c i k : Nat) (l : List Int) : ∀ j, (swL c i k l j).length = l.length
  | 0 => rfl
  | j + 1 => by rw [swL, swp, List.length_set, List.length_set, swL_len c i k l j]
set_option maxHeartbeats 1600000 in
set_option maxRecDepth 100000 in
theorem swap_calls (r c i k m : Nat) (b g cap : Nat) (l : List Int) (w : World) (hr : r ≤ 64) (hc : c ≤ 64) (hi : i < r) (hk : k < r) (hm : r * c = m) (hl : l.length = m) (hg : g < w.heap.size) (hbg : b ≤ g)
    (hR : Kd.R (Kd.int .u64) 58 w b (fun _ => True) (.slice (some ⟨g, 0, none⟩) m cap) l) :
    Calls Tryz.prog 78 #[.agg #[.int .i64 r, .int .i64 c, .slice (some ⟨g, 0, none⟩) m cap], .int .i64 i, .int .i64 k] w fun e w' => e = .returned (.tuple #[]) ∧ Kd.R (Kd.int .u64) 58 w' b (fun _ => True) (.slice (some ⟨g, 0, none⟩) m cap) (swL c i k l c) ∧ Below b w w' := by
  obtain ⟨wL, hwL⟩ : ∃ wL : World, wL = w.alloc (.cells #[.int .i64 r, .int .i64 c, .slice (some ⟨g, 0, none⟩) m cap] 24) := ⟨_, rfl⟩
  have HB := Aside0.mk (show Below b w wL by rw [hwL]; exact (Below.refl b w).alloc (Nat.le_trans hbg (Nat.le_of_lt hg)) _)
  have HY := Aside0.mk (show wL.heap[w.heap.size]? = some (.cells #[.int .i64 r, .int .i64 c, .slice (some ⟨g, 0, none⟩) m cap] 24 (0, 0)) by rw [hwL]; exact World.alloc_heap_new w _)
  have HO := Aside0.mk (show Kd.R (Kd.int .u64) 58 wL b (fun _ => True) (.slice (some ⟨g, 0, none⟩) m cap) l by rw [hwL]; exact Kd.R_alloc hR _)
  have HGB := Aside0.mk hg
  have HBG := Aside0.mk hbg
  clear hbg
  have a1 : wL.cell? ⟨w.heap.size, 1, none⟩ = some (.int .i64 c) := blk_cell HY.out 1
  clear hR
  go_enter Tryz.func78, Tryz.ntmps78
  go_wp2_with fail
  rw [← hwL]
  clear hwL
  go_wp2
  clear a1
  go_loopw [6, 7, 8, 11] (fun v6 v7 v8 v11 wr => ∃ j : Nat, j ≤ c ∧ v11 = .int .i64 j ∧ Aside0 (wr.heap[w.heap.size]? = some (.cells #[.int .i64 r, .int .i64 c, .slice (some ⟨g, 0, none⟩) m cap] 24 (0, 0))) ∧ Aside0 (Kd.R (Kd.int .u64) 58 wr b (fun _ => True) (.slice (some ⟨g, 0, none⟩) m cap) (swL c i k l j)) ∧ Aside0 (Below b w wr)) (fun _ _ _ v11 _ => c - (intOf v11).toNat)
  case atStart => exact ⟨0, Nat.zero_le _, rfl, HY, HO, HB⟩
  case round =>
    clear HY HO HB
    obtain ⟨j, hj, rfl, HY, HO, HB⟩ := hrel
    by_cases hlt : j < c
    · have b1 : decide (j < c) = true := decide_eq_true hlt
      have b2 : decide ((j : Int) < (c : Int)) = true := decide_eq_true (by omega)
      have a1 : wr.cell? ⟨w.heap.size, 1, none⟩ = some (.int .i64 c) := blk_cell HY.out 1
      have a2 : wr.cell? ⟨w.heap.size, 2, none⟩ = some (.slice (some ⟨g, 0, none⟩) m cap) := blk_cell HY.out 2
      obtain ⟨p, hp⟩ : ∃ p, i * c + j = p := ⟨_, rfl⟩
      obtain ⟨q, hq⟩ : ∃ q, k * c + j = q := ⟨_, rfl⟩
      have HSW := Aside0.mk (show swL c i k l (j + 1) = ((swL c i k l j).set p (rd (swL c i k l j) q)).set q (rd (swL c i k l j) p) by rw [swL, swp, hp, hq])
      have hpm : p < m := by
        have := Nat.mul_le_mul_right c (show i + 1 ≤ r from hi)
        rw [Nat.succ_mul] at this
        omega
      have hqm : q < m := by
        have := Nat.mul_le_mul_right c (show k + 1 ≤ r from hk)
        rw [Nat.succ_mul] at this
        omega
      have hmm : m ≤ 4096 := by rw [← hm]; exact Nat.mul_le_mul hr hc
      have hic : (i : Int) * (c : Int) = ((i * c : Nat) : Int) := by simp
      have hkc : (k : Int) * (c : Int) = ((k * c : Nat) : Int) := by simp
      have hip : ((i * c : Nat) : Int) + (j : Int) = (p : Int) := by omega
      have hkq : ((k * c : Nat) : Int) + (j : Int) = (q : Int) := by omega
      generalize i * c = ic at *
      generalize k * c = kc at *
      go_wp2_with fail
      go_quiet (fail)
      go_wp2_with fail
      generalize hwq : wr.drewN _ = wq
      have HYq := Aside0.mk (show wq.heap[w.heap.size]? = some (.cells #[.int .i64 r, .int .i64 c, .slice (some ⟨g, 0, none⟩) m cap] 24 (0, 0)) by rw [← hwq]; exact HY.out)
      have HOq := Aside0.mk (show Kd.R (Kd.int .u64) 58 wq b (fun _ => True) (.slice (some ⟨g, 0, none⟩) m cap) (swL c i k l j) by rw [← hwq]; exact Kd.R_drewN HO.out _)
      have HBq := Aside0.mk (show Below b w wq by rw [← hwq]; exact pw_below_drewN HB.out _)
      clear hwq a1 a2 HY HO HB
      have a1 : wq.cell? ⟨w.heap.size, 1, none⟩ = some (.int .i64 c) := blk_cell HYq.out 1
      have a2 : wq.cell? ⟨w.heap.size, 2, none⟩ = some (.slice (some ⟨g, 0, none⟩) m cap) := blk_cell HYq.out 2
      have HL := Aside0.mk (show (swL c i k l j).length = m by rw [swL_len]; exact hl)
      obtain ⟨zp, fp⟩ := Kd.R_celln 0 HOq.out (p : Int) (by omega) (by omega)
      obtain ⟨zq, fq⟩ := Kd.R_celln 0 HOq.out (q : Int) (by omega) (by omega)
      replace zp : wq.cell? ⟨g, p, none⟩ = some (.int .u64 (rd (swL c i k l j) p)) := zp
      replace fp : wq.frozen? ⟨g, p, none⟩ = false := fp
      replace zq : wq.cell? ⟨g, q, none⟩ = some (.int .u64 (rd (swL c i k l j) q)) := zq
      replace fq : wq.frozen? ⟨g, q, none⟩ = false := fq
      have c1' : (p : Int) < (m : Int) := by omega
      have c2' : (q : Int) < (m : Int) := by omega
      generalize rd (swL c i k l j) p = xp at *
      generalize rd (swL c i k l j) q = xq at *
      obtain ⟨v', hy'⟩ := cell?_setCell_some (w := wq) (p := ⟨g, p, none⟩) (x := .int .u64 xq) (q := ⟨g, q, none⟩) (v := .int .u64 xq) zq
      have HGB2 := Aside0.mk (show w.heap.size ≠ g by omega)
      go_region
      go_wp2
      go_roundw
      case rel =>
        have n1 := HGB2.out
        exact ⟨j + 1, by omega, by first | rfl | go_num, ⟨blk_far (blk_far HYq.out n1 (p := ⟨g, p, none⟩) (.int .u64 xq)) n1 (p := ⟨g, q, none⟩) (.int .u64 xp)⟩, ⟨by rw [HSW.out]; exact Kd.R_drewN (Kd.R_putg (Kd.R_putg HOq.out (p : Int) xq).1 (q : Int) xp).1 1⟩, ⟨((HBq.out.setCell HBG.out _).setCell HBG.out _).drew⟩⟩
      case measure => (simp [intOf] <;> omega)
    · obtain rfl : j = c := by omega
      have b1 : decide (j < j) = false := by simp
      have b2 : decide ((j : Int) < (j : Int)) = false := by simp
      go_wp2
      exact bodyPost_end (v := .tuple #[]) (by first | rfl | (simp [results, go_sem]; done)) rfl ⟨rfl, HO.out, HB.out⟩
end Go.Proofs.YtmbdbkcifmkpbaaGreatDoor.OwnA
end
section
set_option linter.unusedVariables false
set_option linter.unusedSimpArgs false
namespace Go.Proofs.YtmbdbkcifmkpbaaGreatDoor.OwnA
open Go.RowKit Go.Proofs.YtmbdbkcifmkpbaaGreatDoorW.PrintWords Go.Proofs.YtmbdbkcifmkpbaaGreatDoorW.PrintLast Go.Proofs.YtmbdbkcifmkpbaaGreatDoorW.PrintMore
/-- rows that have changed places, so far -/
def apN (c : Nat) (l s : List Int) : Nat → List Int
  | 0 => l
  | i + 1 => swL c i (rd s i).toNat (apN c l s i) c
theorem apN_len (c : Nat) (l s : List Int) : ∀ j, (apN c l s j).length = l.length
  | 0 => rfl
  | j + 1 => by rw [apN, swL_len, apN_len c l s j]
set_option maxHeartbeats 3200000 in
set_option maxRecDepth 100000 in
theorem apply_bad (r k : Int) (A' : Option Addr) (n cc : Nat) (A : Option Addr) (cs : Nat) (s : List Int) (w : World) (hc : s.length ≤ cs) (hr : Kd.C (Kd.int .i64) w A s.length s) (hne : readyF r k n s ≠ 0) :
    Calls Tryz.prog 45 #[.agg #[.int .i64 r, .int .i64 k, .slice A' n cc], .slice A s.length cs] w fun e w' => e = .returned (.tuple #[.agg #[.int .i64 0, .int .i64 0, .slice none 0 0], .int .i64 (readyF r k n s)]) ∧ Below w.heap.size w w' := by
  obtain ⟨wL, hwL⟩ : ∃ wL : World, wL = (w.alloc (.cells #[.int .i64 r, .int .i64 k, .slice A' n cc] 24)).alloc (.cells #[.int .i64 0, .int .i64 0, .slice none 0 0] 24) := ⟨_, rfl⟩
  have hLB : Below w.heap.size w wL := by rw [hwL]; exact ((Below.refl w.heap.size w).alloc (Nat.le_refl _) _).alloc (by simp) _
  have hb0 : wL.heap[w.heap.size]? = some (.cells #[.int .i64 r, .int .i64 k, .slice A' n cc] 24 (0, 0)) := by rw [hwL, Below.heap_alloc _ _ _ (by simp)]; exact World.alloc_heap_new w _
  have hb1 : wL.heap[w.heap.size + 1]? = some (.cells #[.int .i64 0, .int .i64 0, .slice none 0 0] 24 (0, 0)) := by
    rw [hwL]
    have := World.alloc_heap_new (w.alloc (.cells #[.int .i64 r, .int .i64 k, .slice A' n cc] 24)) (.cells #[.int .i64 0, .int .i64 0, .slice none 0 0] 24)
    rwa [World.size_alloc] at this
  have a0 : wL.cell? ⟨w.heap.size, 0, none⟩ = some (.int .i64 r) := blk_cell hb0 0
  have a1 : wL.cell? ⟨w.heap.size, 1, none⟩ = some (.int .i64 k) := blk_cell hb0 1
  have a2 : wL.cell? ⟨w.heap.size, 2, none⟩ = some (.slice A' n cc) := blk_cell hb0 2
  have HR := Aside0.mk (Kd.C_below hr hLB)
  have HLB := Aside0.mk hLB
  have HB0 := Aside0.mk hb0
  have HB1 := Aside0.mk hb1
  clear hr hLB hb0 hb1
  obtain ⟨R, hR⟩ : ∃ R, readyF r k n s = R := ⟨_, rfl⟩
  rw [hR] at hne ⊢
  have HRR := Aside0.mk hR
  clear hR
  have hnb : (R == 0) = false := by simpa using hne
  have hnb2 : (R != 0) = true := by simpa using hne
  go_enter Tryz.func45, Tryz.ntmps45
  go_wp2_with fail
  rw [← hwL]
  clear hwL
  go_wp2_with fail
  refine (ready_calls r k A' n cc A cs s wL hc HR.out).mono ?_
  rintro e w1 ⟨rfl, hB⟩
  rw [HRR.out]
  have HB := Aside0.mk (below_step HLB.out hB)
  have h1 : w1.heap[w.heap.size + 1]? = some (.cells #[.int .i64 0, .int .i64 0, .slice none 0 0] 24 (0, 0)) := (hB.block _ (blk_lt HB1.out)).trans HB1.out
  have HY1 := Aside0.mk h1
  have r0 : w1.cell? ⟨w.heap.size + 1, 0, none⟩ = some (.int .i64 0) := blk_cell h1 0
  have r1 : w1.cell? ⟨w.heap.size + 1, 1, none⟩ = some (.int .i64 0) := blk_cell h1 1
  have r2 : w1.cell? ⟨w.heap.size + 1, 2, none⟩ = some (.slice none 0 0) := blk_cell h1 2
  have f0 := blk_frozen h1 0
  have f1 := blk_frozen h1 1
  have f2 := blk_frozen h1 2
  clear h1 hB a0 a1 a2
  go_wp2
  have p0 := blk_put HY1.out 0 (.int .i64 0) rfl
  have p1 := blk_put (cs := #[.int .i64 0, .int .i64 0, .slice none 0 0]) p0 1 (.int .i64 0) rfl
  have p2 := blk_put (cs := #[.int .i64 0, .int .i64 0, .slice none 0 0]) p1 2 (.slice none 0 0) rfl
  refine bodyPost_ret (results_ct rfl _ _ (w.heap.size + 1) 24 _ (0, 0) _ rfl p2 Tryz.underlying24 rfl (by kernel_rfl)) rfl ?_
  exact ⟨rfl, below_set (below_set (below_set HB.out (by omega)) (by omega)) (by omega)⟩
theorem anyOut_rd {r : Int} {s : List Int} (h : anyOut r s = false) {i : Nat} (hi : i < s.length) : 0 ≤ rd s i ∧ rd s i < r := by
  have e : rd s i = s[i] := by unfold rd; rw [Int.toNat_natCast, List.getD_eq_getElem?_getD, List.getElem?_eq_getElem hi, Option.getD_some]
  rw [e]
  have := List.any_eq_false.1 h _ (List.getElem_mem hi)
  simpa [rowB] using this
set_option maxHeartbeats 3200000 in
set_option maxRecDepth 100000 in
theorem apply_good (r k n : Nat) (A' : Option Addr) (cc : Nat) (A : Option Addr) (cs : Nat) (l s : List Int) (w : World) (hn : l.length = n) (hcc : n ≤ cc) (hc : s.length ≤ cs) (hrl : Kd.C (Kd.int .u64) w A' n l) (hr : Kd.C (Kd.int .i64) w A s.length s) (hz : readyF r k n s = 0) :
    Calls Tryz.prog 45 #[.agg #[.int .i64 r, .int .i64 k, .slice A' n cc], .slice A s.length cs] w fun e w' => ∃ v, e = .returned (.tuple #[.agg #[.int .i64 r, .int .i64 k, v], .int .i64 0]) ∧ Kd.R (Kd.int .u64) 58 w' w.heap.size (fun _ => True) v (apN k l s s.length) ∧ Below w.heap.size w w' := by
  have hfit : fits r k n = true := by
    cases h : fits r k n with
    | true => rfl
    | false => unfold readyF at hz; rw [h] at hz; simp at hz
  have hz2 : ¬ ((r : Int) < s.length) ∧ anyOut r s = false := by
    unfold readyF at hz
    rw [hfit] at hz
    simp only [if_true] at hz
    cases h1 : decide ((r : Int) < s.length) with
    | true => rw [h1] at hz; simp at hz
    | false =>
      cases h2 : anyOut r s with
      | true => rw [h1, h2] at hz; simp at hz
      | false => exact ⟨of_decide_eq_false h1, rfl⟩
  have hfit' := hfit
  unfold fits at hfit'
  rw [Bool.and_eq_true, Bool.and_eq_true, sideB_iff, sideB_iff, decide_eq_true_iff] at hfit'
  obtain ⟨⟨p0, p1⟩, ⟨q0, q1⟩, hrk⟩ := hfit'
  have hrk2 : r * k = n := by
    have : ((r * k : Nat) : Int) = (n : Int) := by rw [Int.natCast_mul]; exact hrk.symm
    omega
  have hnp : 0 < n := by
    rw [← hrk2]
    exact Nat.mul_pos (by omega) (by omega)
  have hn4 : n ≤ 4096 := fits_le hfit
  have HRK := Aside0.mk hrk2
  have HZ := Aside0.mk hz2
  have HSR := Aside0.mk (show s.length ≤ r by omega)
  clear hrk hrk2 hz2 hfit
  obtain ⟨wL, hwL⟩ : ∃ wL : World, wL = (w.alloc (.cells #[.int .i64 r, .int .i64 k, .slice A' n cc] 24)).alloc (.cells #[.int .i64 0, .int .i64 0, .slice none 0 0] 24) := ⟨_, rfl⟩
  have hLB : Below w.heap.size w wL := by rw [hwL]; exact ((Below.refl w.heap.size w).alloc (Nat.le_refl _) _).alloc (by simp) _
  have hb0 : wL.heap[w.heap.size]? = some (.cells #[.int .i64 r, .int .i64 k, .slice A' n cc] 24 (0, 0)) := by rw [hwL, Below.heap_alloc _ _ _ (by simp)]; exact World.alloc_heap_new w _
  have hb1 : wL.heap[w.heap.size + 1]? = some (.cells #[.int .i64 0, .int .i64 0, .slice none 0 0] 24 (0, 0)) := by
    rw [hwL]
    have := World.alloc_heap_new (w.alloc (.cells #[.int .i64 r, .int .i64 k, .slice A' n cc] 24)) (.cells #[.int .i64 0, .int .i64 0, .slice none 0 0] 24)
    rwa [World.size_alloc] at this
  have a0 : wL.cell? ⟨w.heap.size, 0, none⟩ = some (.int .i64 r) := blk_cell hb0 0
  have a1 : wL.cell? ⟨w.heap.size, 1, none⟩ = some (.int .i64 k) := blk_cell hb0 1
  have a2 : wL.cell? ⟨w.heap.size, 2, none⟩ = some (.slice A' n cc) := blk_cell hb0 2
  have hrC := Aside0.mk hr
  have HR := Aside0.mk (Kd.C_below hr hLB)
  have HRL := Aside0.mk (Kd.C_below hrl hLB)
  have HLB := Aside0.mk hLB
  have HB0 := Aside0.mk hb0
  have HB1 := Aside0.mk hb1
  clear hr hrl hLB hb0 hb1
  have HRR := Aside0.mk hz
  clear hz
  go_enter Tryz.func45, Tryz.ntmps45
  go_wp2_with fail
  rw [← hwL]
  clear hwL
  go_wp2_with fail
  refine (ready_calls r k A' n cc A cs s wL hc HR.out).mono ?_
  rintro e w1 ⟨rfl, hB⟩
  rw [HRR.out]
  have HB := Aside0.mk (below_step HLB.out hB)
  have h0 : w1.heap[w.heap.size]? = some (.cells #[.int .i64 r, .int .i64 k, .slice A' n cc] 24 (0, 0)) := (hB.block _ (blk_lt HB0.out)).trans HB0.out
  have h1 : w1.heap[w.heap.size + 1]? = some (.cells #[.int .i64 0, .int .i64 0, .slice none 0 0] 24 (0, 0)) := (hB.block _ (blk_lt HB1.out)).trans HB1.out
  have HY0 := Aside0.mk h0
  have HY1 := Aside0.mk h1
  have HR1 := Aside0.mk (Kd.C_below HR.out hB)
  have HRL1 := Aside0.mk (Kd.C_below HRL.out hB)
  have d2 : w1.cell? ⟨w.heap.size, 2, none⟩ = some (.slice A' n cc) := blk_cell h0 2
  have f2 := blk_frozen h0 2
  clear h0 h1 hB a0 a1 a2 HB0 HB1 HLB HR HRL
  go_wp2_with fail
  have hcl := clone_calls A' cc l w1 (by omega) (by omega) (by rw [hn]; exact HRL1.out)
  rw [hn] at hcl
  refine hcl.mono ?_
  rintro e w2 ⟨v, rfl, hR, hB⟩
  obtain ⟨g, cap, rfl, hg, hg2, _⟩ := Kd.R_form hR (by omega)
  rw [hn] at hR ⊢
  have h0 : w2.heap[w.heap.size]? = some (.cells #[.int .i64 r, .int .i64 k, .slice A' n cc] 24 (0, 0)) := (hB.block _ (blk_lt HY0.out)).trans HY0.out
  have h1 : w2.heap[w.heap.size + 1]? = some (.cells #[.int .i64 0, .int .i64 0, .slice none 0 0] 24 (0, 0)) := (hB.block _ (blk_lt HY1.out)).trans HY1.out
  have HS2 := Aside0.mk (show w.heap.size + 1 < w1.heap.size from blk_lt HY1.out)
  have HC2 := Aside0.mk (Kd.C_below HR1.out hB)
  have HB2 := Aside0.mk (below_step HB.out hB)
  have e2 : w2.cell? ⟨w.heap.size, 2, none⟩ = some (.slice A' n cc) := blk_cell h0 2
  have f3 := blk_frozen h0 2
  have HX0 := Aside0.mk h0
  have HX1 := Aside0.mk h1
  have HO := Aside0.mk hR
  have HG := Aside0.mk hg
  have HG2 := Aside0.mk hg2
  clear h0 h1 hB hR hg hg2 d2 f2 hcl HR1 HRL1 HY0 HY1 HB
  go_wp2_with fail
  generalize hw3 : w2.setCell ⟨w.heap.size, 2, none⟩ (.slice (some ⟨g, 0, none⟩) n cap) = w3
  have HZ0 := Aside0.mk (show w3.heap[w.heap.size]? = some (.cells #[.int .i64 r, .int .i64 k, .slice (some ⟨g, 0, none⟩) n cap] 24 (0, 0)) by rw [← hw3]; exact blk_put HX0.out 2 _ rfl)
  have HZ1 := Aside0.mk (show w3.heap[w.heap.size + 1]? = some (.cells #[.int .i64 0, .int .i64 0, .slice none 0 0] 24 (0, 0)) by rw [← hw3]; exact blk_far HX1.out (by show w.heap.size + 1 ≠ w.heap.size; omega) _)
  have HO3 := Aside0.mk (show Kd.R (Kd.int .u64) 58 w3 w1.heap.size (fun _ => True) (.slice (some ⟨g, 0, none⟩) n cap) (apN k l s 0) by rw [← hw3]; exact Kd.R_set HO.out HX0.out (fun q hq => by revert q; decide) 2 _)
  have HB3 := Aside0.mk (show Below w.heap.size w w3 by rw [← hw3]; exact below_set HB2.out (Nat.le_refl _))
  have HC3 := Aside0.mk (show Kd.C (Kd.int .i64) w3 A s.length s from Kd.C_below hrC.out HB3.out)
  have HG3 := Aside0.mk (show g < w3.heap.size by rw [← hw3]; have := HG2.out; simpa [World.setCell] using this)
  clear hw3 e2 f3 HX0 HX1 HO HC2
  go_loopw [7, 8, 22] (fun v7 v8 v22 wr => ∃ j : Nat, j ≤ s.length ∧ v22 = .int .i64 j ∧ Aside0 (wr.heap[w.heap.size]? = some (.cells #[.int .i64 r, .int .i64 k, .slice (some ⟨g, 0, none⟩) n cap] 24 (0, 0))) ∧ Aside0 (wr.heap[w.heap.size + 1]? = some (.cells #[.int .i64 0, .int .i64 0, .slice none 0 0] 24 (0, 0))) ∧ Aside0 (Kd.R (Kd.int .u64) 58 wr w1.heap.size (fun _ => True) (.slice (some ⟨g, 0, none⟩) n cap) (apN k l s j)) ∧ Aside0 (Below w.heap.size w wr) ∧ Aside0 (g < wr.heap.size)) (fun _ _ v22 _ => s.length - (intOf v22).toNat)
  case atStart => exact ⟨0, Nat.zero_le _, rfl, HZ0, HZ1, HO3, HB3, HG3⟩
  case round =>
    clear HZ0 HZ1 HO3 HB3 HC3 HG3 HB2 HG2
    obtain ⟨j, hj, rfl, HZ0, HZ1, HO, HB, HG3⟩ := hrel
    by_cases hlt : j < s.length
    · have b1 : decide (j < s.length) = true := decide_eq_true hlt
      have b2 : decide ((j : Int) < (s.length : Int)) = true := decide_eq_true (by omega)
      obtain ⟨ad, ead, hx⟩ := Kd.at_int (Kd.C_below hrC.out HB.out) (j : Int) (by omega) (by omega)
      subst ead
      rw [Int.toNat_natCast] at hx
      have a0 : wr.cell? ⟨w.heap.size, 0, none⟩ = some (.int .i64 r) := blk_cell HZ0.out 0
      have a1 : wr.cell? ⟨w.heap.size, 1, none⟩ = some (.int .i64 k) := blk_cell HZ0.out 1
      have a2 : wr.cell? ⟨w.heap.size, 2, none⟩ = some (.slice (some ⟨g, 0, none⟩) n cap) := blk_cell HZ0.out 2
      obtain ⟨y0, y1⟩ := anyOut_rd HZ.out.2 hlt
      have HE := Aside0.mk (show apN k l s (j + 1) = swL k j (rd s j).toNat (apN k l s j) k from rfl)
      generalize rd s j = y at *
      obtain ⟨t, rfl⟩ := Int.eq_ofNat_of_zero_le y0
      rw [Int.toNat_natCast] at HE
      have hjr : j < r := Nat.lt_of_lt_of_le hlt HSR.out
      have htr : t < r := by omega
      have HSW := Aside0.mk (swap_calls r k j t n w1.heap.size g cap (apN k l s j) wr (by omega) (by omega) hjr htr HRK.out (by rw [apN_len]; exact hn) HG3.out HG.out HO.out)
      go_wp2_with (first | (go_at_call 78; (with_reducible refine HSW.out.mono ?_); rintro e w' ⟨rfl, hR', hB'⟩; have HR' := Aside0.mk hR'; have HB' := Aside0.mk hB'; clear hR' hB'))
      go_roundw
      case rel =>
        have q1 := HS2.out
        exact ⟨j + 1, by omega, by first | rfl | go_num, ⟨(HB'.out.block _ (by omega)).trans HZ0.out⟩, ⟨(HB'.out.block _ (by omega)).trans HZ1.out⟩, ⟨by rw [HE.out]; exact HR'.out⟩, ⟨HB.out.trans (HB'.out.mono (by omega))⟩, ⟨Nat.lt_of_lt_of_le HG3.out HB'.out.size⟩⟩
      case measure => (simp [intOf] <;> omega)
    · obtain rfl : j = s.length := by omega
      have b1 : decide (s.length < s.length) = false := by simp
      have b2 : decide ((s.length : Int) < (s.length : Int)) = false := by simp
      have a0 : wr.cell? ⟨w.heap.size, 0, none⟩ = some (.int .i64 r) := blk_cell HZ0.out 0
      have a1 : wr.cell? ⟨w.heap.size, 1, none⟩ = some (.int .i64 k) := blk_cell HZ0.out 1
      have a2 : wr.cell? ⟨w.heap.size, 2, none⟩ = some (.slice (some ⟨g, 0, none⟩) n cap) := blk_cell HZ0.out 2
      have r0 : wr.cell? ⟨w.heap.size + 1, 0, none⟩ = some (.int .i64 0) := blk_cell HZ1.out 0
      have r1 : wr.cell? ⟨w.heap.size + 1, 1, none⟩ = some (.int .i64 0) := blk_cell HZ1.out 1
      have r2 : wr.cell? ⟨w.heap.size + 1, 2, none⟩ = some (.slice none 0 0) := blk_cell HZ1.out 2
      have f0 := blk_frozen HZ1.out 0
      have f1 := blk_frozen HZ1.out 1
      have f2 := blk_frozen HZ1.out 2
      go_wp2
      have p0 := blk_put HZ1.out 0 (.int .i64 r) rfl
      have p1 := blk_put (cs := #[.int .i64 r, .int .i64 0, .slice none 0 0]) p0 1 (.int .i64 k) rfl
      have p2 := blk_put (cs := #[.int .i64 r, .int .i64 k, .slice none 0 0]) p1 2 (.slice (some ⟨g, 0, none⟩) n cap) rfl
      have q0 := Kd.R_set HO.out HZ1.out (fun q hq => by revert q; decide) 0 (.int .i64 r)
      have q1 := Kd.R_set q0 p0 (fun q hq => by revert q; decide) 1 (.int .i64 k)
      have q2 := Kd.R_set q1 p1 (fun q hq => by revert q; decide) 2 (.slice (some ⟨g, 0, none⟩) n cap)
      refine bodyPost_ret (results_ct rfl _ _ (w.heap.size + 1) 24 _ (0, 0) _ rfl p2 Tryz.underlying24 rfl (by kernel_rfl)) rfl ?_
      exact ⟨_, rfl, Kd.R_lower q2 (by have := HS2.out; omega), below_set (below_set (below_set HB.out (by omega)) (by omega)) (by omega)⟩
end Go.Proofs.YtmbdbkcifmkpbaaGreatDoor.OwnA
end
section
set_option linter.unusedVariables false
set_option linter.unusedSimpArgs false
namespace Go.Proofs.YtmbdbkcifmkpbaaGreatDoor.OwnA
open Go.RowKit Go.Proofs.YtmbdbkcifmkpbaaGreatDoorW.PrintWords Go.Proofs.YtmbdbkcifmkpbaaGreatDoorW.PrintLast Go.Proofs.YtmbdbkcifmkpbaaGreatDoorW.PrintMore
attribute [local go_sem] max2_mx min2_int max_two min_two max_three min_three max_four min_four
def lenT (y : Int) : Int := if h : y.toNat < Lib.len8tab.size then wrap64 ((Lib.len8tab[y.toNat]'h).toNat : Int) else 0
def lenF (x : Int) : Int :=
  if 4294967296 ≤ x then
    (if 65536 ≤ x / 4294967296 then (if 256 ≤ x / 4294967296 / 65536 then wrap64 (56 + lenT (x / 4294967296 / 65536 / 256)) else wrap64 (48 + lenT (x / 4294967296 / 65536)))
     else (if 256 ≤ x / 4294967296 then wrap64 (40 + lenT (x / 4294967296 / 256)) else wrap64 (32 + lenT (x / 4294967296))))
  else
    (if 65536 ≤ x then (if 256 ≤ x / 65536 then wrap64 (24 + lenT (x / 65536 / 256)) else wrap64 (16 + lenT (x / 65536)))
     else (if 256 ≤ x then wrap64 (8 + lenT (x / 256)) else wrap64 (lenT x)))
set_option maxHeartbeats 3200000 in
set_option maxRecDepth 100000 in
theorem len64V (x : Int) (w : World) (h0 : 1 ≤ x) (h1 : x < 18446744073709551616) : Calls Tryz.prog 120 #[.int .u64 x] w fun e w' => e = .returned (.int .i64 (lenF x)) ∧ (1 ≤ lenF x ∧ lenF x ≤ 64) ∧ w' = w := by
  by_cases c1 : 4294967296 ≤ x
  · by_cases c2 : 65536 ≤ x / 4294967296
    · by_cases c3 : 256 ≤ x / 4294967296 / 65536
      · have hy : 1 ≤ x / 4294967296 / 65536 / 256 := by omega
        have hz : x / 4294967296 / 65536 / 256 < 256 := by omega
        have hT : 0 ≤ x / 4294967296 / 65536 / 256 ∧ x / 4294967296 / 65536 / 256 < (Lib.len8tab.size : Int) := ⟨by omega, by rw [tab_size]; omega⟩
        have hn : (x / 4294967296 / 65536 / 256).toNat < Lib.len8tab.size := by omega
        have hF : lenF x = wrap64 (56 + wrap64 ((Lib.len8tab[(x / 4294967296 / 65536 / 256).toNat]'hn).toNat : Int)) := by unfold lenF lenT; rw [if_pos c1, if_pos c2, if_pos c3, dif_pos hn]
        have hB := len_fin 56 (by omega) (by omega) _ hy hn
        rw [← hF] at hB
        have HF := Aside0.mk hF
        have HB := Aside0.mk hB
        clear hF hB
        go_enter Tryz.func120, Tryz.ntmps120
        go_wp2
        go_ret
        exact ⟨by rw [HF.out]; rfl, HB.out, rfl⟩
      · have hy : 1 ≤ x / 4294967296 / 65536 := by omega
        have hz : x / 4294967296 / 65536 < 256 := by omega
        have hT : 0 ≤ x / 4294967296 / 65536 ∧ x / 4294967296 / 65536 < (Lib.len8tab.size : Int) := ⟨by omega, by rw [tab_size]; omega⟩
        have hn : (x / 4294967296 / 65536).toNat < Lib.len8tab.size := by omega
        have hF : lenF x = wrap64 (48 + wrap64 ((Lib.len8tab[(x / 4294967296 / 65536).toNat]'hn).toNat : Int)) := by unfold lenF lenT; rw [if_pos c1, if_pos c2, if_neg c3, dif_pos hn]
        have hB := len_fin 48 (by omega) (by omega) _ hy hn
        rw [← hF] at hB
        have HF := Aside0.mk hF
        have HB := Aside0.mk hB
        clear hF hB
        go_enter Tryz.func120, Tryz.ntmps120
        go_wp2
        go_ret
        exact ⟨by rw [HF.out]; rfl, HB.out, rfl⟩
    · by_cases c3 : 256 ≤ x / 4294967296
      · have hy : 1 ≤ x / 4294967296 / 256 := by omega
        have hz : x / 4294967296 / 256 < 256 := by omega
        have hT : 0 ≤ x / 4294967296 / 256 ∧ x / 4294967296 / 256 < (Lib.len8tab.size : Int) := ⟨by omega, by rw [tab_size]; omega⟩
        have hn : (x / 4294967296 / 256).toNat < Lib.len8tab.size := by omega
        have hF : lenF x = wrap64 (40 + wrap64 ((Lib.len8tab[(x / 4294967296 / 256).toNat]'hn).toNat : Int)) := by unfold lenF lenT; rw [if_pos c1, if_neg c2, if_pos c3, dif_pos hn]
        have hB := len_fin 40 (by omega) (by omega) _ hy hn
        rw [← hF] at hB
        have HF := Aside0.mk hF
        have HB := Aside0.mk hB
        clear hF hB
        go_enter Tryz.func120, Tryz.ntmps120
        go_wp2
        go_ret
        exact ⟨by rw [HF.out]; rfl, HB.out, rfl⟩
      · have hy : 1 ≤ x / 4294967296 := by omega
        have hz : x / 4294967296 < 256 := by omega
        have hT : 0 ≤ x / 4294967296 ∧ x / 4294967296 < (Lib.len8tab.size : Int) := ⟨by omega, by rw [tab_size]; omega⟩
        have hn : (x / 4294967296).toNat < Lib.len8tab.size := by omega
        have hF : lenF x = wrap64 (32 + wrap64 ((Lib.len8tab[(x / 4294967296).toNat]'hn).toNat : Int)) := by unfold lenF lenT; rw [if_pos c1, if_neg c2, if_neg c3, dif_pos hn]
        have hB := len_fin 32 (by omega) (by omega) _ hy hn
        rw [← hF] at hB
        have HF := Aside0.mk hF
        have HB := Aside0.mk hB
        clear hF hB
        go_enter Tryz.func120, Tryz.ntmps120
        go_wp2
        go_ret
        exact ⟨by rw [HF.out]; rfl, HB.out, rfl⟩
  · by_cases c2 : 65536 ≤ x
    · by_cases c3 : 256 ≤ x / 65536
      · have hy : 1 ≤ x / 65536 / 256 := by omega
        have hz : x / 65536 / 256 < 256 := by omega
        have hT : 0 ≤ x / 65536 / 256 ∧ x / 65536 / 256 < (Lib.len8tab.size : Int) := ⟨by omega, by rw [tab_size]; omega⟩
        have hn : (x / 65536 / 256).toNat < Lib.len8tab.size := by omega
        have hF : lenF x = wrap64 (24 + wrap64 ((Lib.len8tab[(x / 65536 / 256).toNat]'hn).toNat : Int)) := by unfold lenF lenT; rw [if_neg c1, if_pos c2, if_pos c3, dif_pos hn]
        have hB := len_fin 24 (by omega) (by omega) _ hy hn
        rw [← hF] at hB
        have HF := Aside0.mk hF
        have HB := Aside0.mk hB
        clear hF hB
        go_enter Tryz.func120, Tryz.ntmps120
        go_wp2
        go_ret
        exact ⟨by rw [HF.out]; rfl, HB.out, rfl⟩
      · have hy : 1 ≤ x / 65536 := by omega
        have hz : x / 65536 < 256 := by omega
        have hT : 0 ≤ x / 65536 ∧ x / 65536 < (Lib.len8tab.size : Int) := ⟨by omega, by rw [tab_size]; omega⟩
        have hn : (x / 65536).toNat < Lib.len8tab.size := by omega
        have hF : lenF x = wrap64 (16 + wrap64 ((Lib.len8tab[(x / 65536).toNat]'hn).toNat : Int)) := by unfold lenF lenT; rw [if_neg c1, if_pos c2, if_neg c3, dif_pos hn]
        have hB := len_fin 16 (by omega) (by omega) _ hy hn
        rw [← hF] at hB
        have HF := Aside0.mk hF
        have HB := Aside0.mk hB
        clear hF hB
        go_enter Tryz.func120, Tryz.ntmps120
        go_wp2
        go_ret
        exact ⟨by rw [HF.out]; rfl, HB.out, rfl⟩
    · by_cases c3 : 256 ≤ x
      · have hy : 1 ≤ x / 256 := by omega
        have hz : x / 256 < 256 := by omega
        have hT : 0 ≤ x / 256 ∧ x / 256 < (Lib.len8tab.size : Int) := ⟨by omega, by rw [tab_size]; omega⟩
        have hn : (x / 256).toNat < Lib.len8tab.size := by omega
        have hF : lenF x = wrap64 (8 + wrap64 ((Lib.len8tab[(x / 256).toNat]'hn).toNat : Int)) := by unfold lenF lenT; rw [if_neg c1, if_neg c2, if_pos c3, dif_pos hn]
        have hB := len_fin 8 (by omega) (by omega) _ hy hn
        rw [← hF] at hB
        have HF := Aside0.mk hF
        have HB := Aside0.mk hB
        clear hF hB
        go_enter Tryz.func120, Tryz.ntmps120
        go_wp2
        go_ret
        exact ⟨by rw [HF.out]; rfl, HB.out, rfl⟩
      · have hy : 1 ≤ x := by omega
        have hz : x < 256 := by omega
        have hT : 0 ≤ x ∧ x < (Lib.len8tab.size : Int) := ⟨by omega, by rw [tab_size]; omega⟩
        have hn : (x).toNat < Lib.len8tab.size := by omega
        have hF : lenF x = wrap64 (wrap64 ((Lib.len8tab[(x).toNat]'hn).toNat : Int)) := by unfold lenF lenT; rw [if_neg c1, if_neg c2, if_neg c3, dif_pos hn]
        have hB := len_fin0 _ hy hn
        rw [← hF] at hB
        have HF := Aside0.mk hF
        have HB := Aside0.mk hB
        clear hF hB
        go_enter Tryz.func120, Tryz.ntmps120
        go_wp2
        go_ret
        exact ⟨by rw [HF.out]; rfl, HB.out, rfl⟩
theorem lenF_bd (x : Int) (h0 : 1 ≤ x) (h1 : x < 18446744073709551616) : 1 ≤ lenF x ∧ lenF x ≤ 64 := by
  by_cases c1 : 4294967296 ≤ x
  · by_cases c2 : 65536 ≤ x / 4294967296
    · by_cases c3 : 256 ≤ x / 4294967296 / 65536
      · have hy : 1 ≤ x / 4294967296 / 65536 / 256 := by omega
        have hz : x / 4294967296 / 65536 / 256 < 256 := by omega
        have hT : 0 ≤ x / 4294967296 / 65536 / 256 ∧ x / 4294967296 / 65536 / 256 < (Lib.len8tab.size : Int) := ⟨by omega, by rw [tab_size]; omega⟩
        have hn : (x / 4294967296 / 65536 / 256).toNat < Lib.len8tab.size := by omega
        have hF : lenF x = wrap64 (56 + wrap64 ((Lib.len8tab[(x / 4294967296 / 65536 / 256).toNat]'hn).toNat : Int)) := by unfold lenF lenT; rw [if_pos c1, if_pos c2, if_pos c3, dif_pos hn]
        have hB := len_fin 56 (by omega) (by omega) _ hy hn
        exact hF ▸ hB
      · have hy : 1 ≤ x / 4294967296 / 65536 := by omega
        have hz : x / 4294967296 / 65536 < 256 := by omega
        have hT : 0 ≤ x / 4294967296 / 65536 ∧ x / 4294967296 / 65536 < (Lib.len8tab.size : Int) := ⟨by omega, by rw [tab_size]; omega⟩
        have hn : (x / 4294967296 / 65536).toNat < Lib.len8tab.size := by omega
        have hF : lenF x = wrap64 (48 + wrap64 ((Lib.len8tab[(x / 4294967296 / 65536).toNat]'hn).toNat : Int)) := by unfold lenF lenT; rw [if_pos c1, if_pos c2, if_neg c3, dif_pos hn]
        have hB := len_fin 48 (by omega) (by omega) _ hy hn
        exact hF ▸ hB
    · by_cases c3 : 256 ≤ x / 4294967296
      · have hy : 1 ≤ x / 4294967296 / 256 := by omega
        have hz : x / 4294967296 / 256 < 256 := by omega
        have hT : 0 ≤ x / 4294967296 / 256 ∧ x / 4294967296 / 256 < (Lib.len8tab.size : Int) := ⟨by omega, by rw [tab_size]; omega⟩
        have hn : (x / 4294967296 / 256).toNat < Lib.len8tab.size := by omega
        have hF : lenF x = wrap64 (40 + wrap64 ((Lib.len8tab[(x / 4294967296 / 256).toNat]'hn).toNat : Int)) := by unfold lenF lenT; rw [if_pos c1, if_neg c2, if_pos c3, dif_pos hn]
        have hB := len_fin 40 (by omega) (by omega) _ hy hn
        exact hF ▸ hB
      · have hy : 1 ≤ x / 4294967296 := by omega
        have hz : x / 4294967296 < 256 := by omega
        have hT : 0 ≤ x / 4294967296 ∧ x / 4294967296 < (Lib.len8tab.size : Int) := ⟨by omega, by rw [tab_size]; omega⟩
        have hn : (x / 4294967296).toNat < Lib.len8tab.size := by omega
        have hF : lenF x = wrap64 (32 + wrap64 ((Lib.len8tab[(x / 4294967296).toNat]'hn).toNat : Int)) := by unfold lenF lenT; rw [if_pos c1, if_neg c2, if_neg c3, dif_pos hn]
        have hB := len_fin 32 (by omega) (by omega) _ hy hn
        exact hF ▸ hB
  · by_cases c2 : 65536 ≤ x
    · by_cases c3 : 256 ≤ x / 65536
      · have hy : 1 ≤ x / 65536 / 256 := by omega
        have hz : x / 65536 / 256 < 256 := by omega
        have hT : 0 ≤ x / 65536 / 256 ∧ x / 65536 / 256 < (Lib.len8tab.size : Int) := ⟨by omega, by rw [tab_size]; omega⟩
        have hn : (x / 65536 / 256).toNat < Lib.len8tab.size := by omega
        have hF : lenF x = wrap64 (24 + wrap64 ((Lib.len8tab[(x / 65536 / 256).toNat]'hn).toNat : Int)) := by unfold lenF lenT; rw [if_neg c1, if_pos c2, if_pos c3, dif_pos hn]
        have hB := len_fin 24 (by omega) (by omega) _ hy hn
        exact hF ▸ hB
      · have hy : 1 ≤ x / 65536 := by omega
        have hz : x / 65536 < 256 := by omega
        have hT : 0 ≤ x / 65536 ∧ x / 65536 < (Lib.len8tab.size : Int) := ⟨by omega, by rw [tab_size]; omega⟩
        have hn : (x / 65536).toNat < Lib.len8tab.size := by omega
        have hF : lenF x = wrap64 (16 + wrap64 ((Lib.len8tab[(x / 65536).toNat]'hn).toNat : Int)) := by unfold lenF lenT; rw [if_neg c1, if_pos c2, if_neg c3, dif_pos hn]
        have hB := len_fin 16 (by omega) (by omega) _ hy hn
        exact hF ▸ hB
    · by_cases c3 : 256 ≤ x
      · have hy : 1 ≤ x / 256 := by omega
        have hz : x / 256 < 256 := by omega
        have hT : 0 ≤ x / 256 ∧ x / 256 < (Lib.len8tab.size : Int) := ⟨by omega, by rw [tab_size]; omega⟩
        have hn : (x / 256).toNat < Lib.len8tab.size := by omega
        have hF : lenF x = wrap64 (8 + wrap64 ((Lib.len8tab[(x / 256).toNat]'hn).toNat : Int)) := by unfold lenF lenT; rw [if_neg c1, if_neg c2, if_pos c3, dif_pos hn]
        have hB := len_fin 8 (by omega) (by omega) _ hy hn
        exact hF ▸ hB
      · have hy : 1 ≤ x := by omega
        have hz : x < 256 := by omega
        have hT : 0 ≤ x ∧ x < (Lib.len8tab.size : Int) := ⟨by omega, by rw [tab_size]; omega⟩
        have hn : (x).toNat < Lib.len8tab.size := by omega
        have hF : lenF x = wrap64 (wrap64 ((Lib.len8tab[(x).toNat]'hn).toNat : Int)) := by unfold lenF lenT; rw [if_neg c1, if_neg c2, if_neg c3, dif_pos hn]
        have hB := len_fin0 _ hy hn
        exact hF ▸ hB
def bitsF (l : List Int) : Int := if sizeF l l.length = 0 then 0 else 64 * ((sizeF l l.length : Int) - 1) + lenF (rd l (sizeF l l.length - 1 : Nat))
set_option maxHeartbeats 800000 in
set_option maxRecDepth 100000 in
theorem bitsV (A : Option Addr) (c : Nat) (l : List Int) (w : World) (hl : l.length ≤ 1000000) (hc : l.length ≤ c) (hu : u64s l) (hr : Kd.C (Kd.int .u64) w A l.length l) :
    Calls Tryz.prog 104 #[.slice A l.length c] w fun e w' => e = .returned (.int .i64 (bitsF l)) ∧ w' = w := by
  have HR := Aside0.mk hr
  clear hr
  have hsl := sizeF_le l l.length
  have hst := sizeF_top l l.length
  have HSZ := Aside0.mk (size_calls A c l w hc HR.out)
  have HF := Aside0.mk (show bitsF l = if sizeF l l.length = 0 then 0 else 64 * ((sizeF l l.length : Int) - 1) + lenF (rd l (sizeF l l.length - 1 : Nat)) from rfl)
  generalize bitsF l = B at *
  generalize sizeF l l.length = n at *
  have HST := Aside0.mk hst
  clear hst
  cases n with
  | zero =>
    go_enter Tryz.func104, Tryz.ntmps104
    go_wp2_with (first | (go_at_call 119; (with_reducible refine HSZ.out.mono ?_); rintro e w' ⟨rfl, rfl⟩))
    go_ret
    exact ⟨by rw [HF.out]; rfl, rfl⟩
  | succ m =>
    obtain ⟨ad, rfl, hx⟩ := Kd.at_int HR.out (m : Int) (by omega) (by omega)
    rw [Int.toNat_natCast] at hx
    obtain ⟨x0, x1⟩ := u64s_rd hu m
    have hnz := HST.out m rfl
    have hlt : (m : Int) < l.length := by omega
    have HL := Aside0.mk (len64V (rd l m) w (by omega) x1)
    have HF2 := Aside0.mk (show B = 64 * (m : Int) + lenF (rd l m) by rw [HF.out, if_neg (by omega)]; simp)
    clear HF
    generalize rd l m = x at *
    generalize lenF x = k at *
    go_enter Tryz.func104, Tryz.ntmps104
    go_wp2_with (first | (go_at_call 119; (with_reducible refine HSZ.out.mono ?_); rintro e w' ⟨rfl, rfl⟩) | (go_at_call 120; (with_reducible refine HL.out.mono ?_); rintro e w' ⟨rfl, ⟨k0, k1⟩, rfl⟩))
    go_ret
    exact ⟨by rw [HF2.out]; first | rfl | (congr 2; first | omega | (unfold wrap64; omega)), rfl⟩
def min3 (a b c : Int) : Int := mn (mn a b) c
set_option maxHeartbeats 800000 in
theorem fast_calls (m k n c : Int) (w : World) : Calls Tryz.prog 72 #[.int .i64 m, .int .i64 k, .int .i64 n, .int .i64 c] w fun e w' => e = .returned (.bool (decide (min3 m k n > c))) ∧ Below w.heap.size w w' := by
  go_enter Tryz.func72, Tryz.ntmps72
  go_wp2
  all_goals
    go_ret
    refine ⟨?_, Below.refl _ _⟩
    refine congrArg (fun b => Ending.returned (.bool b)) (decide_eq_decide.2 ?_)
    unfold min3 mn
    repeat' split
    all_goals first | omega | (simp_all; done) | (simp_all; omega)
set_option maxRecDepth 100000 in
set_option maxHeartbeats 3200000 in
theorem catch64 (p q : Value) (w : World) :
    CallsD Tryz.prog 64 #[p, q] .returning w fun e u' w' => (∃ v, e = .returned v) ∧ u' = .returning ∧ Below w.heap.size w w' := by
  have hta : ∀ w : World, (Instr.typeAssert .nilIface 20 108 true).run Tryz.prog w = .ok (.tuple #[.agg #[.int .i64 0], .bool false]) w := fun _ => by kernel_rfl
  have htm : #[p, q] ++ Array.replicate (Tryz.f64.ntmps - (#[p, q] : Array Value).size) undef = #[p, q, undef, undef, undef, undef, undef, undef, undef, undef, undef, undef, undef] := by rw [Tryz.ntmps64]; rfl
  have halloc : ∀ w : World, (Instr.alloc 108 true (.tuple #[])).run Tryz.prog w = .ok (.pointer (some ⟨w.heap.size, 0, none⟩)) (w.alloc (.cells #[.int .i64 0] 108)) := fun w => by simp [go_sem]
  refine callsD_of_wpS Tryz.func64 rfl fun c₀ cs hu => ?_
  rw [htm]
  apply wpS_seq
  apply wpS_region
  simp [wpOpsS, go_sem, recoverD, hu, Exit.thenS, hta]
  apply wpS_seq
  apply wpS_region
  simp [wpOpsS, go_sem, Exit.thenS]
  refine wpS_cond (t := false) (by simp [Act.eval]) ?_
  simp only [Bool.false_eq_true, if_false]
  refine wpS_of_wp (wp_skip ?_)
  cases c₀
  simp_all [bodyPostS, results, Tryz.results64]
  exact (Below.refl w.heap.size w).alloc (Nat.le_refl _) _
end Go.Proofs.YtmbdbkcifmkpbaaGreatDoor.OwnA
end
