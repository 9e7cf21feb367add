/- Scripts, walked: the law ScriptCuts. -/
import Derived.Test.YthmakmmfbdmdfaaOwnSc10
set_option linter.unusedVariables false
set_option linter.unusedSimpArgs false
namespace Go.Proofs.Ythmakmmfbdmdfaa.OwnSc
open Go.RowKit Go.Proofs.Ythmakmmfbdmdfaa.PScriptBack Go.Proofs.YthmakmmfbdmdfaaW.PrintWords Go.Proofs.YthmakmmfbdmdfaaW.PrintLast Go.Proofs.YthmakmmfbdmdfaaW.PrintMore
attribute [local go_sem] max2_int min2_int max_two min_two max_three min_three max_four min_four

/-- the law's loop: whether any step ends at `p` -/
def cutGo : List S53 → Nat → Nat → Bool → Bool
  | [], _, _, e => e
  | x :: l, n, p, e => cutGo l (n + 7 + 8 * x.f5.f2.length) p (e || (n + 7 + 8 * x.f5.f2.length == p))
theorem cutGo_past : ∀ (l : List S53) (n p : Nat) (e : Bool), p ≤ n → cutGo l n p e = e
  | [], _, _, _, _ => rfl
  | x :: l, n, p, e, h => by
    have h1 : (n + 7 + 8 * x.f5.f2.length == p) = false := by simp; omega
    rw [cutGo, cutGo_past l _ p _ (by omega), h1, Bool.or_false]
theorem cutGo_is : ∀ (l : List S53) (n p : Nat) (e : Bool), n < p → cutGo l n p e = (e || atEnd l (p - n))
  | [], n, p, e, h => by
    obtain ⟨m, hm⟩ : ∃ m, p - n = m + 1 := ⟨p - n - 1, by omega⟩
    rw [hm]; simp [cutGo, atEnd]
  | x :: l, n, p, e, h => by
    obtain ⟨m, hm⟩ : ∃ m, p - n = m + 1 := ⟨p - n - 1, by omega⟩
    have hl := encS_len x
    rw [hm, cutGo]
    simp only [atEnd]
    by_cases hc : m + 1 < (encS x).length
    · have h1 : (n + 7 + 8 * x.f5.f2.length == p) = false := by simp; omega
      rw [if_pos hc, cutGo_past l _ p _ (by omega), h1]
    · rw [if_neg hc]
      by_cases he : n + 7 + 8 * x.f5.f2.length = p
      · have h1 : (n + 7 + 8 * x.f5.f2.length == p) = true := by simpa using he
        rw [cutGo_past l _ p _ (by omega), h1, hl]
        have h0 : m + 1 - (7 + 8 * x.f5.f2.length) = 0 := by omega
        rw [h0]; cases l <;> simp [atEnd]
      · have h1 : (n + 7 + 8 * x.f5.f2.length == p) = false := by simpa using he
        rw [cutGo_is l _ p _ (by omega), h1, Bool.or_false, hl]
        have h0 : p - (n + 7 + 8 * x.f5.f2.length) = m + 1 - (7 + 8 * x.f5.f2.length) := by omega
        rw [h0]
theorem atEnd_zero (l : List S53) : atEnd l 0 = true := by cases l <;> simp [atEnd]
theorem cutGo_all (l : List S53) (p : Nat) : cutGo l 0 p (p == 0) = atEnd l p := by
  by_cases h : p = 0
  · subst h; rw [cutGo_past _ _ _ _ (Nat.le_refl _), atEnd_zero]; rfl
  · have h1 : (p == 0) = false := by simpa using h
    rw [cutGo_is l 0 p _ (by omega), h1, Bool.false_or, Nat.sub_zero]
theorem readF_cut {l : List S53} {p : Nat} (hl : l.length ≤ 256) (hg : ∀ x ∈ l, good x) (hb : (encA l).length ≤ 65536) (hp : p ≤ (encA l).length) : ∃ M k, readF ((encA l).take p) = (M, k) ∧ (k == 0) = atEnd l p := by
  have hn : ((encA l).take p).length = p := by rw [List.length_take]; omega
  obtain ⟨h1, h2⟩ := readS_cut l p p hg hp (Nat.le_refl _)
  simp only [readF, hn]
  rw [if_neg (by omega)]
  cases ha : atEnd l p with
  | true =>
    obtain ⟨xs, hx, hxl⟩ := h1 ha
    rw [hx]; simp only []
    rw [if_neg (by omega)]
    exact ⟨_, _, rfl, rfl⟩
  | false =>
    rw [h2 ha]
    exact ⟨_, _, rfl, rfl⟩
/-- how many octets the first `i` steps take -/
def lenUpto (l : List S53) (i : Nat) : Nat := (encA (l.take i)).length
theorem encA_append : ∀ a b : List S53, encA (a ++ b) = encA a ++ encA b
  | [], _ => rfl
  | x :: a, b => by simp [encA, encA_append a b]
theorem lenUpto_le (l : List S53) (i : Nat) : lenUpto l i ≤ (encA l).length := by
  have h := congrArg List.length (encA_append (l.take i) (l.drop i))
  rw [List.take_append_drop, List.length_append] at h
  unfold lenUpto; omega
theorem lenUpto_succ (l : List S53) (i : Nat) (h : i < l.length) : lenUpto l (i + 1) = lenUpto l i + 7 + 8 * l[i].f5.f2.length := by
  unfold lenUpto
  rw [List.take_succ_eq_append_getElem h, encA_append, List.length_append]
  have : encA [l[i]] = encS l[i] := by simp [encA]
  rw [this, encS_len]; omega

set_option maxHeartbeats 1600000 in
set_option maxRecDepth 100000 in
theorem cuts_calls (A : Option Addr) (c : Nat) (l : List S53) (a : Int) (w : World) (hr : Kd.C k53 w A l.length l) (hl : l.length ≤ 140737488351232) (hx : ∀ x ∈ l, ∀ y ∈ x.f5.f2, 0 ≤ y ∧ y < 18446744073709551616)
    (ha : (Lit.int .i64 a).wf = true) :
    Calls Try.prog 9 #[.slice A l.length c, .int .i64 a] w fun e w' => e = .returned (.bool true) ∧ Below w.heap.size w w' := by
  have HL := Aside0.mk hr
  have HX := Aside0.mk hx
  have HN := Aside0.mk hl
  clear hr hx hl
  obtain ⟨i0, hi0, _, hsz0, _⟩ := info_parts info5
  have HI0 := Aside0.mk hi0
  clear hi0 hsz0
  go_enter Try.func9, Try.ntmps9
  go_wp2_with fail
  refine (alive_calls _).mono ?_
  rintro e w1 ⟨rfl, hB⟩
  have HB := Aside0.mk hB
  clear hB
  go_wp2_with fail
  obtain ⟨L, n, hp⟩ : ∃ L n, putF l = (L, n) := ⟨_, _, rfl⟩
  refine (put_is hp A c _ (Kd.C_below HL.out HB.out) HN.out (fun x hm y hy => (HX.out x hm y hy).1)).mono ?_
  rintro e w2 ⟨v, rfl, hR, hB⟩
  have HP := Aside0.mk hp
  obtain ⟨A1, c1, rfl, hl1, hC1⟩ := Kd.R_reads hR
  have HB2 := Aside0.mk (below_step HB.out hB)
  have HC1 := Aside0.mk hC1
  have HL1 := Aside0.mk hl1
  clear hR hB hC1 hl1 hp HB
  by_cases n0 : n = 0
  · subst n0
    obtain ⟨l1, l2, l3, l4⟩ := putF_ok HP.out HX.out
    have L2 := Aside0.mk l2
    have L3 := Aside0.mk l3
    clear l2 l3
    by_cases e0 : L.length = 0
    · have l0 : l.length = 0 := by
        rcases l with _ | ⟨x, l⟩
        · rfl
        · have h3 := congrArg List.length L3.out
          have h4 := encS_len x
          simp only [encA, List.length_append] at h3
          omega
      have b0 : (L.length == 0) = true := by simpa using e0
      have b1 : (l.length == 0) = true := by simpa using l0
      have b2 : ((L.length : Int) == 0) = true := by rw [e0]; rfl
      have b3 : ((l.length : Int) == 0) = true := by rw [l0]; rfl
      go_wp2
      go_ret
      exact ⟨rfl, HB2.out⟩
    · have b0 : (L.length == 0) = false := by simpa using e0
      have b2 : ((L.length : Int) == 0) = false := by rw [beq_eq_false_iff_ne]; omega
      obtain ⟨p, hp, hpk⟩ : ∃ p : Nat, (wrap64 (a.tmod (L.length : Int) + L.length)).tmod L.length = (p : Int) ∧ p < L.length := by
        have hK : 0 < (L.length : Int) := by omega
        have h1 := Int.tmod_lt_of_pos a hK
        have h2 := Int.lt_tmod_of_pos a hK
        rw [ww (by omega) (by omega)]
        have h3 := Int.tmod_lt_of_pos (a.tmod (L.length : Int) + L.length) hK
        have h4 := Int.tmod_nonneg (a := a.tmod (L.length : Int) + L.length) (L.length : Int) (by omega)
        exact ⟨((a.tmod (L.length : Int) + L.length).tmod L.length).toNat, by omega, by omega⟩
      have HPA := Aside0.mk hp
      clear hp
      go_wp2
      rw [HPA.out]
      have hpl : p ≤ (encA l).length := by rw [← L3.out]; omega
      obtain ⟨M, k, hk, hka⟩ := readF_cut l1 L2.out (by rw [← L3.out]; exact l4) hpl
      have HK := Aside0.mk hk
      have HKA := Aside0.mk hka
      clear hk hka b0 b2
      go_loopw [7, 8, 9] (fun v7 v8 v9 wr => ∃ (i n : Nat) (e : Bool), i ≤ l.length ∧ n = lenUpto l i ∧ Aside0 (cutGo (l.drop i) n p e = atEnd l p) ∧ v7 = .bool e ∧ v8 = .int .i64 n ∧ v9 = .int .i64 i ∧ Aside0 (Below w.heap.size w wr) ∧ Aside0 (Below w2.heap.size w2 wr)) (fun v7 v8 v9 _ => l.length - (intOf v9).toNat)
      case atStart =>
        refine ⟨0, 0, (p == 0), Nat.zero_le _, rfl, Aside0.mk (by rw [List.drop_zero]; exact cutGo_all l p), ?_, rfl, rfl, HB2, Aside0.mk (Below.refl _ _)⟩
        congr 1
        by_cases h : p = 0
        · subst h; rfl
        · have h1 : (p == 0) = false := by simpa using h
          have h2 : ((p : Int) == 0) = false := by rw [beq_eq_false_iff_ne]; omega
          rw [h1, ← h2]
      case round =>
        clear HB2
        obtain ⟨i, n, e, hi, hn, HC, rfl, rfl, rfl, HW, HWW⟩ := hrel
        have hnl : n ≤ 65536 := by rw [hn]; exact Nat.le_trans (lenUpto_le l i) (by rw [← L3.out]; exact l4)
        by_cases h0 : i < l.length
        · have b1 : decide (i < l.length) = true := decide_eq_true h0
          have b2 : decide ((i : Int) < l.length) = true := decide_eq_true (by omega)
          have hii : (i : Int) < l.length := by omega
          obtain ⟨ad, A7, c7, rfl, a0, a1, a2, a3, a4, a5, a6, a7, al, ac⟩ := at_T53 (Kd.C_below HL.out HW.out) (i : Int) (by omega) hii
          rw [Int.toNat_natCast] at a7
          obtain ⟨x, hx⟩ : ∃ x, x = rd_T53 l i := ⟨_, rfl⟩
          rw [← hx] at a7 al ac
          have hxe : x = l[i] := by rw [hx]; simp only [rd_T53, Int.toNat_natCast, List.getD_eq_getElem?_getD, List.getElem?_eq_getElem h0, Option.getD_some]
          have hns : n + 7 + 8 * x.f5.f2.length = lenUpto l (i + 1) := by rw [lenUpto_succ l i h0, ← hn, hxe]
          have hnl2 : n + 7 + 8 * x.f5.f2.length ≤ 65536 := by rw [hns]; exact Nat.le_trans (lenUpto_le l _) (by rw [← L3.out]; exact l4)
          have hc2 : cutGo (l.drop (i + 1)) (n + 7 + 8 * x.f5.f2.length) p (e || (n + 7 + 8 * x.f5.f2.length == p)) = atEnd l p := by
            have h := HC.out
            rw [List.drop_eq_getElem_cons h0, cutGo, ← hxe] at h
            exact h
          have HC2 := Aside0.mk hc2
          have HNS := Aside0.mk hns
          clear a0 a1 a2 a3 a4 a5 a6 ac al hx hxe hns hc2 hn
          replace a7 := a7
          by_cases hnp : n + 7 + 8 * x.f5.f2.length = p
          · have q1 : ((n : Int) + 7 + 8 * (x.f5.f2.length : Int) == (p : Int)) = true := by rw [beq_iff_eq]; omega
            have q2 : (n + 7 + 8 * x.f5.f2.length == p) = true := by simpa using hnp
            rw [q2] at HC2
            cases e
            · go_wp2_with fail
              go_roundw
              case rel => exact ⟨i + 1, _, _, by omega, HNS.out, HC2, rfl, by congr 1, by first | rfl | go_num, HW, HWW⟩
              case measure => (simp [intOf] <;> omega)
            · go_wp2_with fail
              go_roundw
              case rel => exact ⟨i + 1, _, _, by omega, HNS.out, HC2, rfl, by congr 1, by first | rfl | go_num, HW, HWW⟩
              case measure => (simp [intOf] <;> omega)
          · have q1 : ((n : Int) + 7 + 8 * (x.f5.f2.length : Int) == (p : Int)) = false := by rw [beq_eq_false_iff_ne]; omega
            have q2 : (n + 7 + 8 * x.f5.f2.length == p) = false := by simpa using hnp
            rw [q2] at HC2
            cases e
            · go_wp2_with fail
              go_roundw
              case rel => exact ⟨i + 1, _, _, by omega, HNS.out, HC2, rfl, by congr 1, by first | rfl | go_num, HW, HWW⟩
              case measure => (simp [intOf] <;> omega)
            · go_wp2_with fail
              go_roundw
              case rel => exact ⟨i + 1, _, _, by omega, HNS.out, HC2, rfl, by congr 1, by first | rfl | go_num, HW, HWW⟩
              case measure => (simp [intOf] <;> omega)
        · obtain rfl : i = l.length := by omega
          have hce : e = atEnd l p := by have h := HC.out; rw [List.drop_length] at h; exact h
          have HCE := Aside0.mk (show (k == 0) = e by rw [hce]; exact HKA.out)
          clear hce
          have hcut := cut_to (P := Try.prog) 43 5 .i64 Try.underlying43 HI0.out A1 L.length c1 (p : Int) (by omega) (by omega) HL1.out
          rw [Int.toNat_natCast] at hcut
          have hpt : ((L.take p).length) = p := by rw [List.length_take]; omega
          have HC2 := Aside0.mk (show Kd.C (Kd.int .u8) wr A1 (L.take p).length (L.take p) from Kd.C_below (Kd.C_take HC1.out (by omega)) (by exact HWW.out))
          go_wp2_with fail
          have hrk : readF (L.take p) = (M, k) := by rw [L3.out]; exact HK.out
          have hrd := read_is hrk A1 c1 wr (by rw [hpt]; have := HL1.out; omega) (fun y hy => encA_oct l y (by rw [← L3.out]; exact List.mem_of_mem_take hy)) HC2.out
          rw [hpt] at hrd
          refine hrd.mono ?_
          rintro e' w5 ⟨v, rfl, hN, hB⟩
          have HB5 := Aside0.mk (below_step HW.out hB)
          clear hN hB hrd hrk HC2 hpt
          by_cases k0 : k = 0
          · subst k0
            have hE : e = true := by rw [← HCE.out]; rfl
            subst hE
            go_wp2
            go_ret
            exact ⟨by simp, HB5.out⟩
          · have hE : e = false := by rw [← HCE.out]; simpa using k0
            subst hE
            have b5 : (k == 0) = false := by simpa using k0
            go_wp2
            go_ret
            exact ⟨by simp, HB5.out⟩
  · have hL := putF_err HP.out n0
    subst hL
    have b1 : (n == 0) = false := by simpa using n0
    have b2 : (n != 0) = true := by simpa using n0
    go_wp2
    go_ret
    exact ⟨by simp, HB2.out⟩
end Go.Proofs.Ythmakmmfbdmdfaa.OwnSc
