/- Scripts, walked: words of octets. -/
import Derived.Test.YthmakmmfbdmdfaaOwnSc3
set_option linter.unusedVariables false
set_option linter.unusedSimpArgs false
namespace Go.Proofs.Ythmakmmfbdmdfaa.OwnSc
open Go.RowKit Go.Proofs.Ythmakmmfbdmdfaa.PScriptBack Go.Proofs.YthmakmmfbdmdfaaW.PrintWords Go.Proofs.YthmakmmfbdmdfaaW.PrintLast Go.Proofs.YthmakmmfbdmdfaaW.PrintMore
attribute [local go_sem] max2_int min2_int max_two min_two max_three min_three max_four min_four

theorem info22 : (Try.prog.info? 22).map (fun i => (i.zero, i.size, i.bytes)) = some (some (.int .u64 0), 1, 8) := by kernel_rfl
/-- octets -/
def oct (l : List Int) : Prop := ∀ x ∈ l, 0 ≤ x ∧ x < 256
def decW (l : List Int) : Int := l.foldl (fun w c => w * 256 + c) 0
def decWs : Nat → List Int → List Int
  | 0, _ => []
  | n + 1, l => decW (l.take 8) :: decWs n (l.drop 8)
theorem oct_rd {l : List Int} (h : oct l) (i : Nat) : 0 ≤ rd l i ∧ rd l i < 256 := by
  by_cases hi : i < l.length
  · have hm : rd l i ∈ l := List.mem_of_mem_drop (i := i) (by rw [rd_drop hi]; simp)
    exact h _ hm
  · simp [rd, List.getD_eq_getElem?_getD, List.getElem?_eq_none (show l.length ≤ i by omega)]
theorem take_snoc {l : List Int} {i : Nat} (h : i < l.length) : l.take (i + 1) = l.take i ++ [rd l i] := by
  rw [List.take_succ_eq_append_getElem h]; congr 1
  simp [rd, List.getD_eq_getElem?_getD, h]
theorem decW_snoc (l : List Int) (c : Int) : decW (l ++ [c]) = decW l * 256 + c := by simp [decW, List.foldl_append]
theorem decW_bd (l : List Int) (h : oct l) : ∀ i, i ≤ l.length → 0 ≤ decW (l.take i) ∧ decW (l.take i) < 256 ^ i := by
  intro i
  induction i with
  | zero => intro _; simp [decW]
  | succ i ih =>
    intro hi
    have h1 := ih (by omega)
    have h2 := oct_rd h i
    rw [take_snoc (by omega), decW_snoc, Int.pow_succ]
    omega
theorem pow_le7 {i : Nat} (h : i ≤ 7) : (256 : Int) ^ i ≤ 72057594037927936 := by
  have : ∀ j : Fin 8, (256 : Int) ^ j.val ≤ 72057594037927936 := by decide +kernel
  exact this ⟨i, by omega⟩
theorem uw {x : Int} (h0 : 0 ≤ x) (h1 : x < 18446744073709551616) : IntKind.u64.wrap x = x := by
  simp only [IntKind.wrap, IntKind.bits, IntKind.signed]
  simp only [Bool.false_and]
  rw [if_neg (by simp)]
  omega
theorem uw' (n : Int) (h0 : 0 ≤ n) (h1 : n < 2 ^ 64) : IntKind.u64.wrap n = n := uw h0 (by simpa using h1)
theorem or_low {y c : Int} (h0 : 0 ≤ y) (h1 : y < 72057594037927936) (c0 : 0 ≤ c) (c1 : c < 256) : Go.bits .or .u64 (y * 256) c = y * 256 + c :=
  Go.bits_join .u64 64 (by decide) uw' 8 (y * 256) c (by omega) (by omega) (by omega) c0 (by omega) (by omega)
def lenOf : Value → Nat
  | .slice _ n _ => n
  | _ => 0

set_option maxHeartbeats 800000 in
set_option maxRecDepth 100000 in
theorem words_calls (n : Nat) (A : Option Addr) (c : Nat) (b : List Int) (w : World) (hn : n ≤ 4096) (hb : b.length = 8 * n) (hc : b.length ≤ c) (ho : oct b) (hr : Kd.C (Kd.int .u8) w A b.length b) :
    Calls Try.prog 79 #[.slice A b.length c] w fun e w' => ∃ v, e = .returned v ∧ Kd.R (Kd.int .u64) 22 w' w.heap.size (fun _ => True) v (decWs n b) ∧ Below w.heap.size w w' := by
  have HR := Aside0.mk hr
  have HN := Aside0.mk hb
  have HQ := Aside0.mk ho
  clear hr ho
  have HC := Aside0.mk hc
  have hbl : b.length ≤ 32768 := by omega
  clear hb hc
  obtain ⟨i0, hi0, _, hsz0, _⟩ := info_parts info5
  have HI0 := Aside0.mk hi0
  have HS0 := Aside0.mk hsz0
  clear hi0 hsz0
  have HB := Aside0.mk (Below.refl w.heap.size w)
  have HO := Aside0.mk (show Kd.R (Kd.int .u64) 22 w w.heap.size (fun _ => True) (.slice none 0 0) ([] : List Int) from Kd.R_nil ..)
  go_enter Try.func79, Try.ntmps79
  go_wp2
  go_loopw [0, 3] (fun v0 v3 wr => ∃ (j : Nat) (A' : Option Addr) (c' : Nat) (rest L : List Int), j ≤ n ∧ rest.length ≤ 32768 ∧ v0 = .slice A' rest.length c' ∧ Aside0 (rest.length = 8 * j) ∧ Aside0 (rest.length ≤ c') ∧ Aside0 (oct rest) ∧ Aside0 (L.length + j = n) ∧ Aside0 (L ++ decWs j rest = decWs n b) ∧ Aside0 (Kd.C (Kd.int .u8) w A' rest.length rest) ∧ Aside0 (Kd.R (Kd.int .u64) 22 wr w.heap.size (fun _ => True) v3 L) ∧ Aside0 (Below w.heap.size w wr)) (fun v0 _ _ => lenOf v0)
  case atStart => exact ⟨n, A, c, b, [], Nat.le_refl _, hbl, rfl, HN, HC, HQ, ⟨by simp⟩, ⟨rfl⟩, HR, HO, HB⟩
  case round =>
    clear HO HB HR HN HC HQ
    obtain ⟨j, A', c', rest, L, hj, hrl, rfl, HN, HC, HQ, HLL, HE, HR, HO, HB⟩ := hrel
    cases j with
    | zero =>
      obtain rfl : rest = [] := List.eq_nil_of_length_eq_zero (by have := HN.out; omega)
      have HE2 := Aside0.mk (show L = decWs n b by rw [← HE.out]; simp [decWs])
      go_wp2
      go_ret
      exact ⟨_, rfl, by rw [← HE2.out]; exact HO.out, HB.out⟩
    | succ j =>
      have hr8 : 8 ≤ rest.length := by have := HN.out; omega
      have hr8i : (8 : Int) ≤ rest.length := by omega
      have b1 : decide ((0 : Int) < rest.length) = true := by simp; omega
      have b2 : decide (0 < rest.length) = true := by simp; omega
      have hcut := cut_to (P := Try.prog) 43 5 .i64 Try.underlying43 HI0.out A' rest.length c' (8 : Int) (by omega) (by omega) HC.out
      rw [show ((8 : Int)).toNat = 8 from rfl] at hcut
      obtain ⟨A2, hdrop, hA2, hC2⟩ := print_drop_of (P := Try.prog) (Value.int .u8) (0 : Int) 43 5 .i64 Try.underlying43 HI0.out HS0.out A' c' rest (8 : Int) (by omega) (by omega) HC.out
      rw [show ((8 : Int)).toNat = 8 from rfl] at hdrop hA2 hC2
      have HR2 := Aside0.mk (show Kd.C (Kd.int .u8) w A2 (rest.drop 8).length (rest.drop 8) from Kd.C_of_reads (h1 := fun _ => rfl) (hA2 _ (Kd.reads_of_C HR.out)))
      have HC2 := Aside0.mk hC2
      clear hA2 hC2
      obtain ⟨wo, rfl⟩ : ∃ wo : World, wo = wr := ⟨_, rfl⟩
      go_wp2
      have HR1 := Aside0.mk (show Kd.C (Kd.int .u8) wo A' rest.length rest from Kd.C_below HR.out HB.out)
      go_loop [4, 15] (fun v4 v15 => ∃ (i : Nat) (y : Int), i ≤ 8 ∧ v15 = .int .i64 i ∧ v4 = .int .u64 y ∧ Aside0 (y = decW (rest.take i))) (fun _ v15 => 8 - (intOf v15).toNat)
      case atStart => exact ⟨0, 0, by omega, rfl, rfl, ⟨rfl⟩⟩
      case round =>
        obtain ⟨i, y, hi, rfl, rfl, HY⟩ := hrel
        by_cases hlt : i < 8
        · obtain ⟨ad, rfl, hx⟩ := Kd.at_int HR1.out (i : Int) (by omega) (by omega)
          rw [Int.toNat_natCast] at hx
          obtain ⟨d0, d1⟩ := oct_rd HQ.out i
          have hbd := decW_bd rest HQ.out i (by omega)
          have hp := pow_le7 (i := i) (by omega)
          rw [← HY.out] at hbd
          obtain ⟨y0, y1⟩ := hbd
          have y2 : y < 72057594037927936 := by omega
          have hor := or_low y0 y2 d0 d1
          have HY2 := Aside0.mk (show y * 256 + rd rest i = decW (rest.take (i + 1)) by rw [take_snoc (by omega), decW_snoc, HY.out])
          clear hp y1
          go_wp2
          go_round
          case rel => exact ⟨i + 1, y * 256 + rd rest i, by omega, by first | rfl | go_num, by first | rfl | (simp; done) | (rw [hor]), HY2⟩
          case measure => (simp [intOf] <;> omega)
        · obtain rfl : i = 8 := by omega
          have HY2 := Aside0.mk (show (L ++ [y]) ++ decWs j (rest.drop 8) = decWs n b by rw [← HE.out, HY.out]; simp [decWs])
          rw [show ((8 : Nat) : Int) = 8 from rfl]
          clear HY HE
          go_wp2_with (first | ((with_reducible refine gate_builtin (b := .append) (xs := #[.tmp 25, .tmp 27]) rfl ?_); at_builtin; refine Kd.R_append (Kd.int .u64) (w0 := w) w.heap.size rfl (.tmp 25) (.tmp 27) 33 22 (.int .u64 0) 8 rfl Try.underlying33 info22 rfl (by decide) (by omega) u3 L y [.int .u64 y] (fun _ => True) (fun _ => False) rfl rfl ?aP (fun _ hk => hk.elim) ?aF ?aO ?aB ?aS ?aL ?_; (case aP => exact rfl); (case aB => exact HB.out); (case aF => exact (fun _ _ => trivial)); (case aO => exact HO.out); (case aS => exact (below_size HB.out)); (case aL => have := HLL.out; omega); intro v1 w6 ho hb hg hat; clear HB HO hg hat; have HB := Aside0.mk hb; have HO := Aside0.mk ho; clear ho hb))
          go_roundw
          case rel => exact ⟨j, A2, c' - 8, rest.drop 8, L ++ [y], by omega, by rw [List.length_drop]; omega, by rw [List.length_drop], ⟨by have := HN.out; rw [List.length_drop]; omega⟩, HC2, ⟨fun x hx => HQ.out x (List.mem_of_mem_drop hx)⟩, ⟨by have := HLL.out; simp; omega⟩, HY2, HR2, HO, HB⟩
          case measure => (simp [lenOf] <;> omega)
end Go.Proofs.Ythmakmmfbdmdfaa.OwnSc
