/- Scripts, walked: the law ScriptBack. -/
import Derived.Test.YthmakmmfbdmdfaaOwnSc9
set_option linter.unusedVariables false
set_option linter.unusedSimpArgs false
namespace Go.Proofs.Ythmakmmfbdmdfaa.OwnSc
open Go.RowKit Go.Proofs.Ythmakmmfbdmdfaa.PScriptBack Go.Proofs.YthmakmmfbdmdfaaW.PrintWords Go.Proofs.YthmakmmfbdmdfaaW.PrintLast Go.Proofs.YthmakmmfbdmdfaaW.PrintMore
attribute [local go_sem] max2_int min2_int max_two min_two max_three min_three max_four min_four

theorem put_is {l : List S53} {L : List Int} {n : Int} (hp : putF l = (L, n)) (A : Option Addr) (c : Nat) (w : World) (hr : Kd.C k53 w A l.length l) (hl : l.length ≤ 140737488351232) (hx : ∀ x ∈ l, ∀ y ∈ x.f5.f2, 0 ≤ y) :
    Calls Try.prog 28 #[.slice A l.length c] w fun e w' => ∃ v, e = .returned (.tuple #[v, .int .i64 n]) ∧ Kd.R (Kd.int .u8) 5 w' w.heap.size (fun _ => True) v L ∧ Below w.heap.size w w' := by
  have h := put_any A c l w hr hl hx
  rw [hp] at h
  exact h
theorem read_is {b : List Int} {M : List S53} {k : Int} (hp : readF b = (M, k)) (B : Option Addr) (d : Nat) (w : World) (hd : b.length ≤ d) (ho : oct b) (hb : Kd.C (Kd.int .u8) w B b.length b) :
    Calls Try.prog 29 #[.slice B b.length d] w fun e w' => ∃ v, e = .returned (.tuple #[v, .int .i64 k]) ∧ Kd.N k53 53 w' w.heap.size (fun k => w.heap.size ≤ k) v M ∧ Below w.heap.size w w' := by
  have h := read_calls B d b w hd ho hb
  rw [hp] at h
  exact h

set_option maxHeartbeats 1600000 in
set_option maxRecDepth 100000 in
theorem back_calls (A B : Option Addr) (c d : Nat) (l : List S53) (b : List Int) (w : World) (hr : Kd.C k53 w A l.length l) (hl : l.length ≤ 140737488351232) (hx : ∀ x ∈ l, ∀ y ∈ x.f5.f2, 0 ≤ y ∧ y < 18446744073709551616)
    (hb : Kd.C (Kd.int .u8) w B b.length b) (hd : b.length ≤ d) (ho : oct b) :
    Calls Try.prog 8 #[.slice A l.length c, .slice B b.length d] w fun e w' => e = .returned (.bool true) ∧ Below w.heap.size w w' := by
  have HL := Aside0.mk hr
  have HX := Aside0.mk hx
  have HR := Aside0.mk hb
  have HD := Aside0.mk hd
  have HQ := Aside0.mk ho
  have HN := Aside0.mk hl
  clear hr hx hb hd ho hl
  go_enter Try.func8, Try.ntmps8
  go_wp2_with fail
  refine (alive_calls _).mono ?_
  rintro e w1 ⟨rfl, hB⟩
  have HB := Aside0.mk hB
  clear hB
  go_wp2_with fail
  obtain ⟨L, n, hp⟩ : ∃ L n, putF l = (L, n) := ⟨_, _, rfl⟩
  refine (put_is hp A c _ (Kd.C_below HL.out HB.out) HN.out (fun x hm y hy => (HX.out x hm y hy).1)).mono ?_
  rintro e w2 ⟨v, rfl, hR, hB⟩
  have HP := Aside0.mk hp
  obtain ⟨A1, c1, rfl, hl1, hC1⟩ := Kd.R_reads hR
  have HB2 := Aside0.mk (below_step HB.out hB)
  have HC1 := Aside0.mk hC1
  have HL1 := Aside0.mk hl1
  clear hR hB hC1 hl1 hp HB
  by_cases n0 : n = 0
  · subst n0
    obtain ⟨l1, l2, l3, l4⟩ := putF_ok HP.out HX.out
    have l5 : readF L = (l, 0) := by rw [l3]; exact readF_enc l1 l2 (by rw [← l3]; exact l4)
    have l6 : ∀ x ∈ l, x.f5.f2.length ≤ 4096 := fun x hm => okM_len (by have := (l2 x hm).2.1; simpa [badM] using this)
    have l7 : oct L := by rw [l3]; exact encA_oct l
    have L5 := Aside0.mk l5
    have L6 := Aside0.mk l6
    have L7 := Aside0.mk l7
    clear l2 l3 l4 l5 l6 l7
    go_wp2_with fail
    refine (read_is L5.out A1 c1 _ HL1.out L7.out HC1.out).mono ?_
    rintro e w3 ⟨v, rfl, hN, hB⟩
    obtain ⟨A2, c2, rfl, hl2, hC2⟩ := Kd.N_reads hN
    have HB3 := Aside0.mk (below_step HB2.out hB)
    have HC2 := Aside0.mk hC2
    clear hN hB hC2 hl2 L5 L7
    go_wp2_with fail
    refine (same_calls A A2 c c2 l _ l1 L6.out (Kd.C_below HL.out HB3.out) HC2.out).mono ?_
    rintro e w4 ⟨rfl, hB⟩
    have HC := Aside0.mk (below_step HB3.out hB)
    clear hB
    go_wp2_with fail
    obtain ⟨M, k, hk⟩ : ∃ M k, readF b = (M, k) := ⟨_, _, rfl⟩
    refine (read_is hk B d _ HD.out HQ.out (Kd.C_below HR.out HC.out)).mono ?_
    rintro e w5 ⟨v, rfl, hN, hB⟩
    have HK := Aside0.mk hk
    obtain ⟨A3, c3, rfl, hl3, hC3⟩ := Kd.N_reads hN
    have HB5 := Aside0.mk (below_step HC.out hB)
    have HC3 := Aside0.mk hC3
    clear hN hB hC3 hk
    by_cases k0 : k = 0
    · subst k0
      obtain ⟨r1, r2, r3⟩ := readF_ok HK.out HQ.out
      have R1 := Aside0.mk r1
      have R3 := Aside0.mk r3
      clear r1 r3
      go_wp2_with fail
      refine (put_is R1.out A3 c3 _ HC3.out (by omega) (fun x hm y hy => ((R3.out x hm).2.2 y hy).1)).mono ?_
      rintro e w6 ⟨v, rfl, hR, hB⟩
      obtain ⟨A4, c4, rfl, hl4, hC4⟩ := Kd.R_reads hR
      have HB6 := Aside0.mk (below_step HB5.out hB)
      have s1 := Kd.C_string (c := c4) (P := Try.prog) Try.underlying43 Try.underlying5 Try.underlying9 hC4
      have s2 := Kd.C_string (c := d) (P := Try.prog) Try.underlying43 Try.underlying5 Try.underlying9 (Kd.C_below HR.out HB6.out)
      clear hR hB hC4 R1 R3
      go_wp2
      go_ret
      exact ⟨by simp, HB6.out⟩
    · have hM := readF_err HK.out k0
      subst hM
      have b5 : (k == 0) = false := by simpa using k0
      have b6 : (k != 0) = true := by simpa using k0
      go_wp2
      go_ret
      exact ⟨by simp, HB5.out⟩
  · have hL := putF_err HP.out n0
    subst hL
    have b1 : (n == 0) = false := by simpa using n0
    have b2 : (n != 0) = true := by simpa using n0
    have HC := HB2
    go_wp2_with fail
    obtain ⟨M, k, hk⟩ : ∃ M k, readF b = (M, k) := ⟨_, _, rfl⟩
    refine (read_is hk B d _ HD.out HQ.out (Kd.C_below HR.out HC.out)).mono ?_
    rintro e w5 ⟨v, rfl, hN, hB⟩
    have HK := Aside0.mk hk
    obtain ⟨A3, c3, rfl, hl3, hC3⟩ := Kd.N_reads hN
    have HB5 := Aside0.mk (below_step HC.out hB)
    have HC3 := Aside0.mk hC3
    clear hN hB hC3 hk
    by_cases k0 : k = 0
    · subst k0
      obtain ⟨r1, r2, r3⟩ := readF_ok HK.out HQ.out
      have R1 := Aside0.mk r1
      have R3 := Aside0.mk r3
      clear r1 r3
      go_wp2_with fail
      refine (put_is R1.out A3 c3 _ HC3.out (by omega) (fun x hm y hy => ((R3.out x hm).2.2 y hy).1)).mono ?_
      rintro e w6 ⟨v, rfl, hR, hB⟩
      obtain ⟨A4, c4, rfl, hl4, hC4⟩ := Kd.R_reads hR
      have HB6 := Aside0.mk (below_step HB5.out hB)
      have s1 := Kd.C_string (c := c4) (P := Try.prog) Try.underlying43 Try.underlying5 Try.underlying9 hC4
      have s2 := Kd.C_string (c := d) (P := Try.prog) Try.underlying43 Try.underlying5 Try.underlying9 (Kd.C_below HR.out HB6.out)
      clear hR hB hC4 R1 R3
      go_wp2
      go_ret
      exact ⟨by simp, HB6.out⟩
    · have hM := readF_err HK.out k0
      subst hM
      have b5 : (k == 0) = false := by simpa using k0
      have b6 : (k != 0) = true := by simpa using k0
      go_wp2
      go_ret
      exact ⟨by simp, HB5.out⟩
end Go.Proofs.Ythmakmmfbdmdfaa.OwnSc
