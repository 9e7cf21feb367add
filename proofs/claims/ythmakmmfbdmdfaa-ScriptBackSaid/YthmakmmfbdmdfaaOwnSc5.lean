/- Scripts, walked: the iterator over octets. -/
import Derived.Test.YthmakmmfbdmdfaaOwnSc4
import Derived.Test.YthmakmmfbdmdfaaOwnRf
import Derived.Deep.RegionHeld3
import Derived.IntWalk
set_option linter.unusedVariables false
set_option linter.unusedSimpArgs false
namespace Go.Proofs.Ythmakmmfbdmdfaa.OwnSc
open Go.RowKit Go.Proofs.Ythmakmmfbdmdfaa.PScriptBack Go.Proofs.YthmakmmfbdmdfaaW.PrintWords Go.Proofs.YthmakmmfbdmdfaaW.PrintLast Go.Proofs.YthmakmmfbdmdfaaW.PrintMore
attribute [local go_sem] max2_int min2_int max_two min_two max_three min_three max_four min_four

/-- how many octets the first step takes -/
def stepN (b : List Int) : Nat := 7 + 8 * ((rd b 5).toNat * (rd b 6).toNat)
/-- the first step -/
def decS (b : List Int) : S53 := ⟨rd b 0, rd b 1, rd b 2, rd b 3, rd b 4, ⟨rd b 5, rd b 6, decWs ((rd b 5).toNat * (rd b 6).toNat) ((b.take (stepN b)).drop 7)⟩⟩
/-- the steps, if they are -/
def readS : Nat → List Int → Option (List S53)
  | 0, _ => some []
  | n + 1, b => if b.length = 0 then some [] else if b.length < 7 ∨ 64 < rd b 5 ∨ 64 < rd b 6 then none else if b.length < stepN b then none else (readS n (b.drop (stepN b))).map (decS b :: ·)

set_option maxHeartbeats 400000 in
theorem steps_calls (A : Option Addr) (n c : Nat) (w : World) : Calls Try.prog 60 #[.slice A n c] w fun e w' => e = .returned (.func (.func 78) #[] #[.pointer (some ⟨w.heap.size, 0, none⟩)]) ∧ w' = w.alloc (.cells #[.slice A n c] 43) := by
  go_enter Try.func60, Try.ntmps60
  go_wp2
  go_ret
  exact ⟨rfl, rfl⟩

theorem iw {x : Int} (h : 0 ≤ x ∧ x < 256) : IntKind.i64.wrap x = x := IntWalk.i64_in _ (by omega)
theorem set8 {W : World} {g : Nat} {a0 a1 a2 a3 a4 a5 a6 a7 : Value} {t : Nat} (u0 u1 u2 u3 u4 u5 u6 u7 : Value) (h : W.heap[g]? = some (.cells #[a0, a1, a2, a3, a4, a5, a6, a7] t (0, 0))) :
    ((((((((W.setCell ⟨g, 0, none⟩ u0).setCell ⟨g, 1, none⟩ u1).setCell ⟨g, 2, none⟩ u2).setCell ⟨g, 3, none⟩ u3).setCell ⟨g, 4, none⟩ u4).setCell ⟨g, 5, none⟩ u5).setCell ⟨g, 6, none⟩ u6).setCell ⟨g, 7, none⟩ u7).heap[g]? = some (.cells #[u0, u1, u2, u3, u4, u5, u6, u7] t (0, 0)) := by
  simp [World.setCell, Array.getElem?_modify, h]
theorem cells8 {W : World} {g : Nat} {a0 a1 a2 a3 a4 a5 a6 a7 : Value} {t : Nat} (h : W.heap[g]? = some (.cells #[a0, a1, a2, a3, a4, a5, a6, a7] t (0, 0))) :
    W.cell? ⟨g, 0, none⟩ = some a0 ∧ W.cell? ⟨g, 1, none⟩ = some a1 ∧ W.cell? ⟨g, 2, none⟩ = some a2 ∧ W.cell? ⟨g, 3, none⟩ = some a3 ∧ W.cell? ⟨g, 4, none⟩ = some a4 ∧ W.cell? ⟨g, 5, none⟩ = some a5 ∧ W.cell? ⟨g, 6, none⟩ = some a6 ∧ W.cell? ⟨g, 7, none⟩ = some a7 := by
  refine ⟨?_, ?_, ?_, ?_, ?_, ?_, ?_, ?_⟩ <;> simp [World.cell?, h]
theorem World.lt_of_heap {W : World} {g : Nat} {o : Obj} (h : W.heap[g]? = some o) : g < W.heap.size := (Array.getElem?_eq_some_iff.1 h).1
theorem useIt {p q G : Prop} (h : p → q) (hp : p) (k : q → G) : G := k (h hp)
theorem blk8 {W : World} {g : Nat} (h : W.heap[g]? = some (.cells #[.int .i64 0, .int .i64 0, .int .i64 0, .int .i64 0, .int .i64 0, .int .i64 0, .int .i64 0, .slice none 0 0] 53 (0, 0))) :
    W.cell? ⟨g, 0, none⟩ = some (.int .i64 0) ∧ W.cell? ⟨g, 1, none⟩ = some (.int .i64 0) ∧ W.cell? ⟨g, 2, none⟩ = some (.int .i64 0) ∧ W.cell? ⟨g, 3, none⟩ = some (.int .i64 0) ∧ W.cell? ⟨g, 4, none⟩ = some (.int .i64 0) ∧ W.cell? ⟨g, 5, none⟩ = some (.int .i64 0) ∧ W.cell? ⟨g, 6, none⟩ = some (.int .i64 0) ∧ W.cell? ⟨g, 7, none⟩ = some (.slice none 0 0) ∧ W.frozen? ⟨g, 0, none⟩ = false ∧ W.frozen? ⟨g, 1, none⟩ = false ∧ W.frozen? ⟨g, 2, none⟩ = false ∧ W.frozen? ⟨g, 3, none⟩ = false ∧ W.frozen? ⟨g, 4, none⟩ = false ∧ W.frozen? ⟨g, 5, none⟩ = false ∧ W.frozen? ⟨g, 6, none⟩ = false ∧ W.frozen? ⟨g, 7, none⟩ = false := by
  refine ⟨?_, ?_, ?_, ?_, ?_, ?_, ?_, ?_, ?_, ?_, ?_, ?_, ?_, ?_, ?_, ?_⟩ <;> simp [World.cell?, World.frozen?, h]

/-- a step's value -/
def valS (x : S53) (A : Option Addr) (c : Nat) : Value := .agg #[.int .i64 x.f0, .int .i64 x.f1, .int .i64 x.f2, .int .i64 x.f3, .int .i64 x.f4, .int .i64 x.f5.f0, .int .i64 x.f5.f1, .slice A x.f5.f2.length c]

set_option maxHeartbeats 800000 in
set_option maxRecDepth 100000 in
theorem iter_calls (w0 : World) (A : Option Addr) (c : Nat) (b : List Int) (hbl : b.length ≤ 65536) (hc : b.length ≤ c) (ho : oct b) (hr : Kd.C (Kd.int .u8) w0 A b.length b)
    (l Bn : Nat) (hBn : w0.heap.size ≤ Bn) (w : World) (hb0 : Below w0.heap.size w0 w) (hx : Boxed w Bn 43 (.slice A b.length c))
    (J : List S53 → World → Prop) (Jx : World → Prop) (hJ : ∀ pre X Y, J pre X → X.grownBy Y (some Bn) → J pre Y)
    (hY1 : ∀ pre x A' c' X0 X, J pre X0 → X0.grownBy X (some Bn) → pre.length ≤ 9363 → x.f5.f2.length ≤ c' → Kd.F (Kd.int .u64) X (fun k => X0.heap.size ≤ k) A' x.f5.f2.length x.f5.f2 →
      YieldAt Fence.wide 3 Try.prog l #[valS x A' c', .bool true] X fun e Y => e = .returned (.bool true) ∧ J (pre ++ [x]) Y ∧ Y.heap[Bn]? = X.heap[Bn]? ∧ Below w0.heap.size X Y)
    (hY0 : ∀ pre X, J pre X → YieldAt Fence.wide 3 Try.prog l #[.agg #[.int .i64 0, .int .i64 0, .int .i64 0, .int .i64 0, .int .i64 0, .int .i64 0, .int .i64 0, .slice none 0 0], .bool false] X fun e Y => e = .returned (.bool false) ∧ Jx Y)
    (h0 : J [] w) :
    Calls Try.prog 78 #[.func (.yield l) #[] #[], .pointer (some ⟨Bn, 0, none⟩)] w fun e W => (∃ v, e = .returned v) ∧
      ((∃ xs, readS b.length b = some xs ∧ J xs W) ∨ (readS b.length b = none ∧ Jx W)) := by
  have HR := Aside0.mk hr
  have HQ := Aside0.mk ho
  have HC := Aside0.mk hc
  have HB0 := Aside0.mk hb0
  have HX := Aside0.mk hx
  have HJ := Aside0.mk hJ
  have HY1 := Aside0.mk hY1
  have HY0 := Aside0.mk hY0
  have H0 := Aside0.mk h0
  clear hr ho hc hb0 hx hJ hY1 hY0 h0
  obtain ⟨i0, hi0, _, hsz0, _⟩ := info_parts info5
  have HI0 := Aside0.mk hi0
  have HS0 := Aside0.mk hsz0
  clear hi0 hsz0
  go_enter Try.func78, Try.ntmps78
  go_wp2
  go_loopw [] (fun wr => ∃ (A' : Option Addr) (c' : Nat) (rest : List Int) (pre : List S53) (f : Nat), Aside0 (Boxed wr Bn 43 (.slice A' rest.length c')) ∧ rest.length ≤ 65536 ∧ rest.length ≤ c' ∧ Aside0 (rest.length ≤ f) ∧ Aside0 (oct rest) ∧ Aside0 (Kd.C (Kd.int .u8) w0 A' rest.length rest) ∧ Aside0 (readS b.length b = (readS f rest).map (pre ++ ·)) ∧ Aside0 (7 * pre.length + rest.length ≤ 65536) ∧ Aside0 (Below w0.heap.size w0 wr) ∧ Aside0 (w.heap.size ≤ wr.heap.size) ∧ Aside0 (J pre wr)) (fun wr => match wr.cell? ⟨Bn, 0, none⟩ with | some (.slice _ n _) => n | _ => 0)
  case atStart => exact ⟨A, c, b, [], b.length, HX, hbl, HC.out, ⟨Nat.le_refl _⟩, HQ, HR, ⟨by cases readS b.length b <;> rfl⟩, ⟨by simpa using hbl⟩, HB0, ⟨Nat.le_refl _⟩, H0⟩
  case round =>
    clear HX HC HQ HR HB0 H0
    obtain ⟨A', c', rest, pre, f, HX, hrl, hrc, HF, HQ, HR, HE, HP, HB, HZ, HJr⟩ := hrel
    have hcell := HX.out.cell
    have hfroz := HX.out.frozen
    by_cases h0 : rest.length = 0
    · have b1 : decide (0 < rest.length) = false := decide_eq_false (by omega)
      have b2 : decide ((0 : Int) < rest.length) = false := decide_eq_false (by omega)
      have HN := Aside0.mk (show readS b.length b = some pre by
        rw [HE.out]; cases f with
        | zero => simp [readS]
        | succ f => simp [readS, h0])
      clear h0
      go_wp2
      go_end0
      exact ⟨⟨_, rfl⟩, .inl ⟨pre, HN.out, HJr.out⟩⟩
    · have b1 : decide (0 < rest.length) = true := decide_eq_true (by omega)
      have b2 : decide ((0 : Int) < rest.length) = true := decide_eq_true (by omega)
      obtain ⟨f, rfl⟩ : ∃ g, f = g + 1 := ⟨f - 1, by have := HF.out; omega⟩
      have bad : (rest.length < 7 ∨ 64 < rd rest 5 ∨ 64 < rd rest 6) → readS b.length b = none := fun h => by
        rw [HE.out]; simp only [readS]; rw [if_neg h0, if_pos h]; rfl
      by_cases h1 : rest.length < 7
      · have b3 : decide (rest.length < 7) = true := decide_eq_true (by omega)
        have b4 : decide ((rest.length : Int) < 7) = true := decide_eq_true (by omega)
        have HN := Aside0.mk (bad (.inl h1))
        clear h0 bad
        obtain ⟨fn, tmps, asg, bdy, hy, hRd⟩ := HY0.out pre wr HJr.out
        go_upto_region 2 with (fail)
        refine (wpIn_wide (n := 4)).1 ?_
        gi_wp2
        refine hRd.mono ?_
        rintro e W2 ⟨rfl, hx⟩
        have HX2 := Aside0.mk hx
        clear hx hy hRd
        gi_wp2
        go_wp2
        exact bodyPost_ret (results_none rfl _ _ _) rfl ⟨⟨_, rfl⟩, .inr ⟨HN.out, HX2.out⟩⟩
      · have b3 : decide (rest.length < 7) = false := decide_eq_false (by omega)
        have b4 : decide ((rest.length : Int) < 7) = false := decide_eq_false (by omega)
        have HR1 := Aside0.mk (show Kd.C (Kd.int .u8) wr A' rest.length rest from Kd.C_below HR.out HB.out)
        have g5 : (5 : Int) < rest.length := by omega
        have g6 : (6 : Int) < rest.length := by omega
        obtain ⟨ad, rfl, hx5⟩ := Kd.at_int HR1.out (5 : Int) (by omega) g5
        obtain ⟨ad', e', hx6⟩ := Kd.at_int HR1.out (6 : Int) (by omega) g6
        injection e' with e'
        subst e'
        replace hx5 : wr.cell? ⟨ad.block, ad.off + 5, none⟩ = some (.int .u8 (rd rest 5)) := hx5
        replace hx6 : wr.cell? ⟨ad.block, ad.off + 6, none⟩ = some (.int .u8 (rd rest 6)) := hx6
        obtain ⟨d50, d51⟩ := oct_rd HQ.out 5
        obtain ⟨d60, d61⟩ := oct_rd HQ.out 6
        have HN5 := Aside0.mk h0
        by_cases h2 : 64 < rd rest 5
        · have b5 : decide (64 < rd rest 5) = true := decide_eq_true h2
          have HN := Aside0.mk (bad (.inr (.inl h2)))
          clear h0 bad
          obtain ⟨fn, tmps, asg, bdy, hy, hRd⟩ := HY0.out pre wr HJr.out
          go_upto_region 2 with (fail)
          refine (wpIn_wide (n := 4)).1 ?_
          gi_wp2
          refine hRd.mono ?_
          rintro e W2 ⟨rfl, hx⟩
          have HX2 := Aside0.mk hx
          clear hx hy hRd
          gi_wp2
          go_wp2
          exact bodyPost_ret (results_none rfl _ _ _) rfl ⟨⟨_, rfl⟩, .inr ⟨HN.out, HX2.out⟩⟩
        · have b5 : decide (64 < rd rest 5) = false := decide_eq_false h2
          by_cases h3 : 64 < rd rest 6
          · have b6 : decide (64 < rd rest 6) = true := decide_eq_true h3
            have HN := Aside0.mk (bad (.inr (.inr h3)))
            clear h0 bad
            obtain ⟨fn, tmps, asg, bdy, hy, hRd⟩ := HY0.out pre wr HJr.out
            go_upto_region 2 with (fail)
            refine (wpIn_wide (n := 4)).1 ?_
            gi_wp2
            refine hRd.mono ?_
            rintro e W2 ⟨rfl, hx⟩
            have HX2 := Aside0.mk hx
            clear hx hy hRd
            gi_wp2
            go_wp2
            exact bodyPost_ret (results_none rfl _ _ _) rfl ⟨⟨_, rfl⟩, .inr ⟨HN.out, HX2.out⟩⟩
          · have b6 : decide (64 < rd rest 6) = false := decide_eq_false h3
            have HBAD : Aside0 (¬ (rest.length < 7 ∨ 64 < rd rest 5 ∨ 64 < rd rest 6)) := ⟨by omega⟩
            clear h0 bad
            go_upto_region 3 with (fail)
            go_quiet (fail)
            obtain ⟨wd, hwd⟩ : ∃ wd : World, wd = wr.drewN nq := ⟨_, rfl⟩
            have hgd : wr.grownBy wd none := by rw [hwd]; exact ⟨rfl, rfl, rfl, Nat.le_refl _, fun _ _ _ => rfl⟩
            replace HX := Aside0.mk (HX.out.kept hgd (by simp))
            replace HB := Aside0.mk (show Below w0.heap.size w0 wd by rw [hwd]; exact pw_below_drewN HB.out nq)
            replace HZ := Aside0.mk (show w.heap.size ≤ wd.heap.size from Nat.le_trans HZ.out hgd.size)
            replace HJr := Aside0.mk (HJ.out pre wr wd HJr.out ⟨hgd.os, hgd.tape, hgd.output, hgd.size, fun k hk _ => hgd.block k hk (by simp)⟩)
            replace HR1 := Aside0.mk (show Kd.C (Kd.int .u8) wd (some ad) rest.length rest from Kd.C_below HR.out HB.out)
            rw [← hwd]
            have HMU := Aside0.mk (show wr.cell? ⟨Bn, 0, none⟩ = some (.slice (some ad) rest.length c') from hcell)
            clear hwd hgd hcell hfroz hx5 hx6
            have hcell := HX.out.cell
            have hfroz := HX.out.frozen
            obtain ⟨r, hr⟩ := Int.eq_ofNat_of_zero_le (show 0 ≤ rd rest 5 from d50)
            obtain ⟨q, hq⟩ := Int.eq_ofNat_of_zero_le (show 0 ≤ rd rest 6 from d60)
            have HRQ := Aside0.mk (show rd rest 5 = (r : Int) ∧ rd rest 6 = (q : Int) from ⟨hr, hq⟩)
            have hr64 : r ≤ 64 := by omega
            have hq64 : q ≤ 64 := by omega
            rw [hr, hq]
            clear b5 b6 h2 h3 hr hq d50 d60 d51 d61 g5 g6 b3 b4
            have hm := mul_bd (a := (r : Int)) (b := (q : Int)) (A := 64) (B := 64) (by omega) (by omega) (by omega) (by omega)
            obtain ⟨m, hmm⟩ : ∃ m : Nat, m = r * q := ⟨_, rfl⟩
            have hmi : (8 : Int) * r * q = 8 * m := by rw [hmm, Int.mul_assoc]; simp
            have hm4 : m ≤ 4096 := by
              have : (m : Int) = (r : Int) * q := by rw [hmm]; simp
              omega
            have HM := Aside0.mk hmm
            have hw1 : wrap64 (8 * (r : Int)) = 8 * r := ww (by omega) (by omega)
            have hw2 : wrap64 (8 * (r : Int) * q) = 8 * m := by rw [hmi]; exact ww (by omega) (by omega)
            have hw3 : wrap64 (7 + 8 * (m : Int)) = 7 + 8 * m := ww (by omega) (by omega)
            rw [show wrap64 (r : Int) = r from ww (by omega) (by omega), show wrap64 (q : Int) = q from ww (by omega) (by omega)]
            clear hm hmm
            have HST := Aside0.mk (show stepN rest = 7 + 8 * m by simp [stepN, HRQ.out.1, HRQ.out.2, HM.out])
            by_cases h4 : rest.length < 7 + 8 * m
            · have b7 : decide (rest.length < 7 + 8 * m) = true := decide_eq_true h4
              have b8 : decide ((rest.length : Int) < 7 + 8 * m) = true := decide_eq_true (by omega)
              have HN := Aside0.mk (show readS b.length b = none by
                rw [HE.out]; simp only [readS]; rw [if_neg HN5.out, if_neg HBAD.out, if_pos (by rw [HST.out]; exact h4)]; rfl)
              obtain ⟨fn, tmps, asg, bdy, hy, hRd⟩ := HY0.out pre wd HJr.out
              go_upto_region 6 with (fail)
              refine (wpIn_wide (n := 4)).1 ?_
              gi_wp2
              refine hRd.mono ?_
              rintro e W2 ⟨rfl, hx⟩
              have HX2 := Aside0.mk hx
              clear hx hy hRd
              gi_wp2
              go_wp2
              exact bodyPost_ret (results_none rfl _ _ _) rfl ⟨⟨_, rfl⟩, .inr ⟨HN.out, HX2.out⟩⟩
            · have b7 : decide (rest.length < 7 + 8 * m) = false := decide_eq_false h4
              have b8 : decide ((rest.length : Int) < 7 + 8 * m) = false := decide_eq_false (by omega)
              have h4i : (7 + 8 * (m : Int)) ≤ rest.length := by omega
              have cutm := fun W => cut_mid (P := Try.prog) 43 5 .i64 .i64 Try.underlying43 HI0.out 1 HS0.out (some ad) rest.length c' (7 : Int) (7 + 8 * (m : Int)) (by omega) (by omega) h4i hrc W
              obtain ⟨Am, hmid, hAm, hcm⟩ := print_mid_of (P := Try.prog) (Value.int .u8) (0 : Int) 43 5 .i64 .i64 Try.underlying43 HI0.out HS0.out (some ad) c' rest (7 : Int) (7 + 8 * (m : Int)) (by omega) (by omega) h4i hrc
              rw [show ((7 : Int)).toNat = 7 from rfl, show (7 + 8 * (m : Int)).toNat = 7 + 8 * m by omega] at hmid hAm hcm
              have hMR : Kd.C (Kd.int .u8) w0 Am ((rest.take (7 + 8 * m)).drop 7).length ((rest.take (7 + 8 * m)).drop 7) := Kd.C_of_reads (h1 := fun _ => rfl) (hAm _ (Kd.reads_of_C HR.out))
              obtain ⟨mid, hmd⟩ : ∃ mid : List Int, mid = (rest.take (7 + 8 * m)).drop 7 := ⟨_, rfl⟩
              rw [← hmd] at hmid hMR hcm
              have HMD := Aside0.mk hmd
              have HML := Aside0.mk (show mid.length = 8 * m by rw [hmd, List.length_drop, List.length_take]; omega)
              have HMQ := Aside0.mk (show oct mid from fun x hx => HQ.out x (by rw [hmd] at hx; exact List.mem_of_mem_take (List.mem_of_mem_drop hx)))
              have HMR := Aside0.mk hMR
              have HMB := Aside0.mk hcm
              clear hMR hmd
              have HMX := Aside0.mk hrc
              clear hAm hcm cutm
              have g0 : (0 : Int) < rest.length := by omega
              have n0 : 0 < rest.length := by omega
              have n1 : 1 < rest.length := by omega
              have n2 : 2 < rest.length := by omega
              have n3 : 3 < rest.length := by omega
              have n4 : 4 < rest.length := by omega
              have g1 : (1 : Int) < rest.length := by omega
              have g2 : (2 : Int) < rest.length := by omega
              have g3 : (3 : Int) < rest.length := by omega
              have g4 : (4 : Int) < rest.length := by omega
              go_upto_region 7 with (fail)
              go_cut [6] from 48 to 75 (fun t6 wx => ∃ (g : Nat) (Aw : Option Addr) (cw : Nat), t6 = .pointer (some ⟨g, 0, none⟩) ∧ Aside0 (wx.heap[g]? = some (.cells #[.int .i64 (rd rest 0), .int .i64 (rd rest 1), .int .i64 (rd rest 2), .int .i64 (rd rest 3), .int .i64 (rd rest 4), .int .i64 r, .int .i64 q, .slice Aw (decWs m mid).length cw] 53 (0, 0))) ∧ Aside0 (Below wd.heap.size wd wx) ∧ Aside0 (wd.heap.size ≤ g) ∧ Aside0 ((decWs m mid).length ≤ cw) ∧ Aside0 (Kd.F (Kd.int .u64) wx (fun k => wd.heap.size ≤ k) Aw (decWs m mid).length (decWs m mid)))
              case rest =>
                obtain ⟨g, Aw, cw, rfl, HG, HBx, HGL, HLW, HFw⟩ := hcut
                have hBx := HBx.out
                have HX2 := Aside0.mk (show Boxed wc Bn 43 (.slice (some ad) rest.length c') from (hBx.block Bn HX.out.lt).trans HX.out)
                have HgB := Aside0.mk (show g ≠ Bn by have := HX.out.lt; have := HGL.out; omega)
                obtain ⟨A2, hdrop, hA2, hc2⟩ := print_drop_of (P := Try.prog) (Value.int .u8) (0 : Int) 43 5 .i64 Try.underlying43 HI0.out HS0.out (some ad) c' rest (7 + 8 * (m : Int)) (by omega) h4i hrc
                rw [show (7 + 8 * (m : Int)).toNat = 7 + 8 * m by omega] at hdrop hA2 hc2
                have hR2 : Kd.C (Kd.int .u8) w0 A2 (rest.drop (7 + 8 * m)).length (rest.drop (7 + 8 * m)) := Kd.C_of_reads (h1 := fun _ => rfl) (hA2 _ (Kd.reads_of_C HR.out))
                obtain ⟨rest2, hr2⟩ : ∃ l : List Int, l = rest.drop (7 + 8 * m) := ⟨_, rfl⟩
                rw [← hr2] at hdrop hR2 hc2
                have HR2 := Aside0.mk hR2
                have HC2 := Aside0.mk hc2
                have HD2 := Aside0.mk hr2
                have HL2 := Aside0.mk (show rest2.length + (7 + 8 * m) = rest.length by rw [hr2, List.length_drop]; omega)
                clear hA2 hR2 hc2 hr2
                have hcell2 := HX2.out.cell
                have hfroz2 := HX2.out.frozen
                go_upto_region 9 with (fail)
                have hG := HG.out
                obtain ⟨wy, hwy⟩ : ∃ wy : World, wy = wc.setCell ⟨Bn, 0, none⟩ (.slice A2 rest2.length (c' - (7 + 8 * m))) := ⟨_, rfl⟩
                have hgy : wc.grownBy wy (some Bn) := by rw [hwy]; exact grownBy_setCell' _ _ _
                have HXy := Aside0.mk (show Boxed wy Bn 43 (.slice A2 rest2.length (c' - (7 + 8 * m))) by rw [hwy]; exact HX2.out.set _)
                obtain ⟨y0, y1, y2, y3, y4, y5, y6, y7⟩ := cells8 ((hgy.block g (World.lt_of_heap hG) (by have := HgB.out; simpa using this)).trans hG)
                have HJy := Aside0.mk (HJ.out pre wc wy (HJ.out pre wd wc HJr.out ⟨hBx.os, hBx.tape, hBx.output, hBx.size, fun k hk _ => hBx.block k hk⟩) hgy)
                have hBn2 : w.heap.size ≤ wy.heap.size := Nat.le_trans HZ.out (Nat.le_trans hBx.size hgy.size)
                have HFy := Aside0.mk (show Kd.F (Kd.int .u64) wy (fun k => wd.heap.size ≤ k) Aw (decWs m mid).length (decWs m mid) from
                  Kd.F_grown HFw.out hgy (fun k hk he => by injection he with he; have := HX.out.lt; have : wd.heap.size ≤ k := hk; omega))
                have hgd2 : wd.grownBy wy (some Bn) := ⟨hgy.os.trans hBx.os, hgy.tape.trans hBx.tape, hgy.output.trans hBx.output, Nat.le_trans hBx.size hgy.size, fun k hk hne => (hgy.block k (Nat.lt_of_lt_of_le hk hBx.size) hne).trans (hBx.block k hk)⟩
                have HBy := Aside0.mk (show Below w0.heap.size w0 wy by rw [hwy]; exact (below_step HB.out hBx).setCell (p := ⟨Bn, 0, none⟩) hBn _)
                have HZy := Aside0.mk hBn2
                rw [← hwy]
                obtain ⟨fn, tmps, asg, bdy, hy, hRd⟩ := HY1.out pre ⟨rd rest 0, rd rest 1, rd rest 2, rd rest 3, rd rest 4, ⟨(r : Int), (q : Int), decWs m mid⟩⟩ Aw cw wd wy HJr.out hgd2 (by have := HP.out; omega) HLW.out HFy.out
                simp only [valS] at hy
                have hDE : (⟨rd rest 0, rd rest 1, rd rest 2, rd rest 3, rd rest 4, ⟨(r : Int), (q : Int), decWs m mid⟩⟩ : S53) = decS rest := by
                  have h5 := HRQ.out.1
                  have h6 := HRQ.out.2
                  simp only [decS, h5, h6, Int.toNat_natCast, HST.out, ← HM.out, ← HMD.out]
                rw [hDE] at hRd
                have HEy := Aside0.mk (show readS b.length b = (readS f rest2).map ((pre ++ [decS rest]) ++ ·) by
                  rw [HE.out]; simp only [readS]; rw [if_neg HN5.out, if_neg HBAD.out, if_neg (by rw [HST.out]; exact h4), HST.out, ← HD2.out]
                  cases readS f rest2 <;> simp)
                have HPy := Aside0.mk (show 7 * (pre ++ [decS rest]).length + rest2.length ≤ 65536 by have := HP.out; have := HL2.out; simp; omega)
                have HFf := Aside0.mk (show rest2.length ≤ f by have := HF.out; have := HL2.out; omega)
                have HQ2 := Aside0.mk (show oct rest2 from fun x hx => HQ.out x (by rw [HD2.out] at hx; exact List.mem_of_mem_drop hx))
                have hlt2 : rest2.length < rest.length := by have := HL2.out; omega
                clear hwy hgy hG hBn2 hgd2 hDE hcell2 hfroz2 hBx
                refine (wpIn_wide (n := 4)).1 ?_
                gi_wp2
                refine hRd.mono ?_
                rintro e W2 ⟨rfl, hj, hbx, hbl2⟩
                have HJ3 := Aside0.mk hj
                have HX3 := Aside0.mk (show Boxed W2 Bn 43 (.slice A2 rest2.length (c' - (7 + 8 * m))) from hbx.trans HXy.out)
                have HB3 := Aside0.mk (HBy.out.trans hbl2)
                have HZ3 := Aside0.mk (Nat.le_trans HZy.out hbl2.size)
                clear hj hbx hbl2 hy hRd
                gi_wp2
                go_wp2
                go_roundw
                case rel => exact ⟨A2, c' - (7 + 8 * m), rest2, pre ++ [decS rest], f, HX3, by omega, HC2.out, HFf, HQ2, HR2, HEy, HPy, HB3, HZ3, HJ3⟩
                case measure => rw [HMU.out, HX3.out.cell]; exact hlt2
              have HW := Aside0.mk (show IntKind.i64.wrap (rd rest 0) = rd rest 0 ∧ IntKind.i64.wrap (rd rest 1) = rd rest 1 ∧ IntKind.i64.wrap (rd rest 2) = rd rest 2 ∧ IntKind.i64.wrap (rd rest 3) = rd rest 3 ∧ IntKind.i64.wrap (rd rest 4) = rd rest 4 from ⟨iw (oct_rd HQ.out 0), iw (oct_rd HQ.out 1), iw (oct_rd HQ.out 2), iw (oct_rd HQ.out 3), iw (oct_rd HQ.out 4)⟩)
              obtain ⟨ad2, e0, hc0⟩ := Kd.at_int HR1.out (0 : Int) (by omega) g0
              injection e0 with e0
              subst e0
              obtain ⟨ad2, e0, hc1⟩ := Kd.at_int HR1.out (1 : Int) (by omega) g1
              injection e0 with e0
              subst e0
              obtain ⟨ad2, e0, hc2⟩ := Kd.at_int HR1.out (2 : Int) (by omega) g2
              injection e0 with e0
              subst e0
              obtain ⟨ad2, e0, hc3⟩ := Kd.at_int HR1.out (3 : Int) (by omega) g3
              injection e0 with e0
              subst e0
              obtain ⟨ad2, e0, hc4⟩ := Kd.at_int HR1.out (4 : Int) (by omega) g4
              injection e0 with e0
              subst e0
              have kc : ∀ (X : World) (a : Addr) (v : Value), Below wd.heap.size wd X → wd.cell? a = some v → X.cell? a = some v := fun X a v hX h => (hX.cell (World.block_lt_of_cell? wd _ h)).trans h
              have keepS : ∀ X, Below wd.heap.size wd X → (X.cell? ⟨Bn, 0, none⟩ = some (.slice (some ad) rest.length c') ∧ X.cell? ad = some (.int .u8 (rd rest 0)) ∧ X.cell? ⟨ad.block, ad.off + 1, none⟩ = some (.int .u8 (rd rest 1)) ∧ X.cell? ⟨ad.block, ad.off + 2, none⟩ = some (.int .u8 (rd rest 2)) ∧ X.cell? ⟨ad.block, ad.off + 3, none⟩ = some (.int .u8 (rd rest 3)) ∧ X.cell? ⟨ad.block, ad.off + 4, none⟩ = some (.int .u8 (rd rest 4)) ∧ Below wd.heap.size wd X) := fun X hX =>
                ⟨kc X _ _ hX hcell, kc X _ _ hX hc0, kc X _ _ hX hc1, kc X _ _ hX hc2, kc X _ _ hX hc3, kc X _ _ hX hc4, hX⟩
              have sA : ∀ X o, Below wd.heap.size wd X → Below wd.heap.size wd (X.alloc o) := fun X o h => h.alloc h.size o
              have sC : ∀ X Y, Below wd.heap.size wd X → Below X.heap.size X Y → Below wd.heap.size wd Y := fun X Y h k => h.trans (k.mono h.size)
              have KS := Aside0.mk keepS
              have SA := Aside0.mk sA
              have SC := Aside0.mk sC
              have SS := Aside0.mk (show ∀ (X : World) (u0 u1 u2 u3 u4 u5 u6 u7 : Value), Below wd.heap.size wd X → Below wd.heap.size wd ((((((((X.setCell ⟨wd.heap.size, 0, none⟩ u0).setCell ⟨wd.heap.size, 1, none⟩ u1).setCell ⟨wd.heap.size, 2, none⟩ u2).setCell ⟨wd.heap.size, 3, none⟩ u3).setCell ⟨wd.heap.size, 4, none⟩ u4).setCell ⟨wd.heap.size, 5, none⟩ u5).setCell ⟨wd.heap.size, 6, none⟩ u6).setCell ⟨wd.heap.size, 7, none⟩ u7) from
                fun X u0 u1 u2 u3 u4 u5 u6 u7 h => (((((((h.setCell (Nat.le_refl _) u0).setCell (Nat.le_refl _) u1).setCell (Nat.le_refl _) u2).setCell (Nat.le_refl _) u3).setCell (Nat.le_refl _) u4).setCell (Nat.le_refl _) u5).setCell (Nat.le_refl _) u6).setCell (Nat.le_refl _) u7)
              clear hc0 hc1 hc2 hc3 hc4 kc keepS sA sC hw1 hw2 hw3 hmi
              have BLK := Aside0.mk (show ∀ w2, Below (wd.alloc (.cells #[.int .i64 0, .int .i64 0, .int .i64 0, .int .i64 0, .int .i64 0, .int .i64 0, .int .i64 0, .slice none 0 0] 53)).drew.heap.size (wd.alloc (.cells #[.int .i64 0, .int .i64 0, .int .i64 0, .int .i64 0, .int .i64 0, .int .i64 0, .int .i64 0, .slice none 0 0] 53)).drew w2 → _ from
                fun w2 hB2 => blk8 ((hB2.block wd.heap.size (by simp)).trans (World.alloc_heap_new wd _)))
              go_region_held3 (fun X => X.cell? ⟨Bn, 0, none⟩ = some (.slice (some ad) rest.length c') ∧ X.cell? ad = some (.int .u8 (rd rest 0)) ∧ X.cell? ⟨ad.block, ad.off + 1, none⟩ = some (.int .u8 (rd rest 1)) ∧ X.cell? ⟨ad.block, ad.off + 2, none⟩ = some (.int .u8 (rd rest 2)) ∧ X.cell? ⟨ad.block, ad.off + 3, none⟩ = some (.int .u8 (rd rest 3)) ∧ X.cell? ⟨ad.block, ad.off + 4, none⟩ = some (.int .u8 (rd rest 4)) ∧ Below wd.heap.size wd X)
                (first
                  | with_reducible exact KS.out _ ((Below.refl wd.heap.size wd).drew)
                  | with_reducible exact KS.out _ ((SA.out _ _ (Below.refl wd.heap.size wd)).drew)
                  | with_reducible exact KS.out _ (SA.out _ _ (SC.out _ _ ((Below.refl wd.heap.size wd).drew) (by assumption)))
                  | (go_split_ands; with_reducible exact KS.out _ (SC.out _ _ (by assumption) (by assumption)))
                  | (go_split_ands; with_reducible exact KS.out _ (SA.out _ _ (by assumption)))
                  | (go_split_ands; with_reducible exact KS.out _ (SS.out _ _ _ _ _ _ _ _ _ (SC.out _ _ ((SA.out _ _ (Below.refl wd.heap.size wd)).drew) (by assumption)))))
                (first
                  | (go_split_ands
                     go_at_call 79
                     refine (words_calls m Am (c' - 7) mid _ hm4 HML.out HMB.out HMQ.out (Kd.C_below HMR.out (below_step HB.out (by assumption)))).mono ?_
                     rintro e w2 ⟨v, rfl, hR, hB2⟩
                     obtain ⟨Aw, cw, rfl, hlw, hCw⟩ := Kd.R_reads hR
                     have HRw := Aside0.mk hR
                     (first
                       | (refine useIt (BLK.out w2) ?_ ?_
                          assumption
                          rintro ⟨q0, q1, q2, q3, q4, q5, q6, q7, f0, f1, f2, f3, f4, f5, f6, f7⟩)
                       | skip)
                     clear hR hCw))
              all_goals (go_wp2_with fail)
              all_goals go_meet
              all_goals rw [HW.out.1, HW.out.2.1, HW.out.2.2.1, HW.out.2.2.2.1, HW.out.2.2.2.2]
              · have hb := SC.out _ _ ((Below.refl wd.heap.size wd).drew) hB2
                have hF : Kd.F (Kd.int .u64) w2 (fun k => wd.heap.size ≤ k) Aw (decWs m mid).length (decWs m mid) := Kd.F_mono (Kd.R_F (Kd.R_tight rfl HRw.out)) (fun k hk => Kd.R_base HRw.out k hk.symm)
                exact ⟨w2.heap.size, Aw, cw, rfl, ⟨World.alloc_heap_new w2 _⟩, ⟨SA.out _ _ hb⟩, ⟨hb.size⟩, ⟨hlw⟩, ⟨Kd.F_alloc hF _⟩⟩
              · have hb := SC.out _ _ ((SA.out _ _ (Below.refl wd.heap.size wd)).drew) hB2
                have hF : Kd.F (Kd.int .u64) w2 (fun k => (wd.alloc (.cells #[.int .i64 0, .int .i64 0, .int .i64 0, .int .i64 0, .int .i64 0, .int .i64 0, .int .i64 0, .slice none 0 0] 53)).heap.size ≤ k) Aw (decWs m mid).length (decWs m mid) := Kd.F_mono (Kd.R_F (Kd.R_tight rfl HRw.out)) (fun k hk => Kd.R_base HRw.out k hk.symm)
                have hne : ∀ k, (wd.alloc (.cells #[.int .i64 0, .int .i64 0, .int .i64 0, .int .i64 0, .int .i64 0, .int .i64 0, .int .i64 0, .slice none 0 0] 53)).heap.size ≤ k → k ≠ wd.heap.size := fun k hk => by simp at hk; omega
                have hblk := (hB2.block wd.heap.size (by simp)).trans (World.alloc_heap_new wd _)
                exact ⟨wd.heap.size, Aw, cw, rfl, ⟨set8 _ _ _ _ _ _ _ _ hblk⟩, ⟨SS.out _ _ _ _ _ _ _ _ _ hb⟩, ⟨Nat.le_refl _⟩, ⟨hlw⟩, ⟨Kd.F_mono (Kd.F_far (Kd.F_far (Kd.F_far (Kd.F_far (Kd.F_far (Kd.F_far (Kd.F_far (Kd.F_far hF hne _) hne _) hne _) hne _) hne _) hne _) hne _) hne _) (fun k hk => by simp at hk; omega)⟩⟩
end Go.Proofs.Ythmakmmfbdmdfaa.OwnSc
