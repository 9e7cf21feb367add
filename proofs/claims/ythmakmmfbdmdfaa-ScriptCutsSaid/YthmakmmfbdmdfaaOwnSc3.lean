/- Scripts, walked: a step's octets, and a script's. -/
import Derived.Test.YthmakmmfbdmdfaaOwnSc2
set_option linter.unusedVariables false
set_option linter.unusedSimpArgs false
namespace Go.Proofs.Ythmakmmfbdmdfaa.OwnSc
open Go.RowKit Go.Proofs.Ythmakmmfbdmdfaa.PScriptBack Go.Proofs.YthmakmmfbdmdfaaW.PrintWords Go.Proofs.YthmakmmfbdmdfaaW.PrintLast Go.Proofs.YthmakmmfbdmdfaaW.PrintMore
attribute [local go_sem] max2_int min2_int max_two min_two max_three min_three max_four min_four

/-- a word's octets -/
def encW (x : Int) : List Int := [x / 72057594037927936 % 256, x / 281474976710656 % 256, x / 1099511627776 % 256, x / 4294967296 % 256, x / 16777216 % 256, x / 65536 % 256, x / 256 % 256, x % 256]
def encWs : List Int → List Int
  | [] => []
  | x :: l => encW x ++ encWs l
/-- a step's octets -/
def encS (x : S53) : List Int := [x.f0 % 256, x.f1 % 256, x.f2 % 256, x.f3 % 256, x.f4 % 256, x.f5.f0 % 256, x.f5.f1 % 256] ++ encWs x.f5.f2
theorem encWs_len (l : List Int) : (encWs l).length = 8 * l.length := by
  induction l with
  | nil => rfl
  | cons x l ih => simp [encWs, encW, ih]; omega
theorem ww {x : Int} (h0 : -9223372036854775808 ≤ x) (h1 : x ≤ 9223372036854775807) : wrap64 x = x := by unfold wrap64; omega
theorem l2_eq (x n i : Int) (data L : List Int) (hx0 : 0 ≤ x) (k : Nat) (hL : L.length ≤ 1000000) :
    script_step.l2 (k + 9) L x 56 data n i = script_step.l1 k (L ++ encW x) data n (wrap64 (i + 1)) := by
  have s : ∀ j : Int, 0 ≤ j → j ≤ 56 → shr .u64 x j = x / 2 ^ j.toNat := by
    intro j h0 h1
    unfold shr
    rw [Nat.min_eq_left (by simp [IntKind.bits]; omega)]
  have go : ∀ (m : Nat) (j : Int) (M : List Int), 0 ≤ j → j ≤ 56 → M.length ≤ 1000008 → script_step.l2 (m + 1) M x j data n i = script_step.l2 m (M ++ [x / 2 ^ j.toNat % 256]) x (j - 8) data n i := by
    intro m j M h0 h1 h2
    simp only [script_step.l2]
    rw [if_pos (by omega), if_pos h0, if_pos (by omega), s j h0 h1, ww (by omega) (by omega)]
  rw [go (k + 8) 56 _ (by omega) (by omega) (by omega), go (k + 7) _ _ (by omega) (by omega) (by simp; omega), go (k + 6) _ _ (by omega) (by omega) (by simp; omega), go (k + 5) _ _ (by omega) (by omega) (by simp; omega), go (k + 4) _ _ (by omega) (by omega) (by simp; omega), go (k + 3) _ _ (by omega) (by omega) (by simp; omega), go (k + 2) _ _ (by omega) (by omega) (by simp; omega), go (k + 1) _ _ (by omega) (by omega) (by simp; omega)]
  simp only [script_step.l2]
  rw [if_neg (by omega)]
  congr 1
  simp [encW]
theorem l1_eq (data : List Int) (hd : data.length ≤ 4096) (hx : ∀ y ∈ data, 0 ≤ y) : ∀ (d k i : Nat) (L : List Int), 10 * d < k → i + d = data.length → L.length + 8 * d ≤ 100000 →
    script_step.l1 k L data data.length i = some (L ++ encWs (data.drop i)) := by
  intro d
  induction d with
  | zero =>
    intro k i L hk hi hL
    obtain ⟨k, rfl⟩ : ∃ j, k = j + 1 := ⟨k - 1, by omega⟩
    simp only [script_step.l1]
    rw [if_neg (by omega), List.drop_eq_nil_of_le (by omega)]
    simp [encWs]
  | succ d ih =>
    intro k i L hk hi hL
    obtain ⟨k, rfl⟩ : ∃ j, k = j + 10 := ⟨k - 10, by omega⟩
    simp only [script_step.l1]
    rw [if_pos (by omega), if_pos (by omega), if_pos (by omega)]
    have hm : rd data i ∈ data := List.mem_of_mem_drop (i := i) (by rw [rd_drop (show i < data.length by omega)]; simp)
    rw [l2_eq _ _ _ _ _ (hx _ hm) k (by omega), ww (by omega) (by omega)]
    have h := ih k (i + 1) (L ++ encW (rd data i)) (by omega) (by omega) (by simp [encW]; omega)
    rw [show (((i + 1 : Nat)) : Int) = (i : Int) + 1 by omega] at h
    rw [h, rd_drop (show i < data.length by omega)]
    simp [encWs]
theorem l0_eq (a b c d e r q : Int) (data l : List Int) (hl : l.length ≤ 100) : ∀ (m k i : Nat) (L : List Int), m < k → i + m = l.length → L.length + m ≤ 1000 →
    script_step.l0 k L l l.length i a b c d e r q data = script_step.l1 (k - m - 1) (L ++ (l.drop i).map (· % 256)) data data.length 0 := by
  intro m
  induction m with
  | zero =>
    intro k i L hk hi hL
    obtain ⟨k, rfl⟩ : ∃ j, k = j + 1 := ⟨k - 1, by omega⟩
    simp only [script_step.l0]
    rw [if_neg (by omega), List.drop_eq_nil_of_le (by omega)]
    simp
  | succ m ih =>
    intro k i L hk hi hL
    obtain ⟨k, rfl⟩ : ∃ j, k = j + 1 := ⟨k - 1, by omega⟩
    simp only [script_step.l0]
    rw [if_pos (by omega), if_pos (by omega), if_pos (by omega), if_pos (by omega), ww (by omega) (by omega)]
    have h := ih k (i + 1) (L ++ [rd l i % 256]) (by omega) (by omega) (by simp; omega)
    rw [show (((i + 1 : Nat)) : Int) = (i : Int) + 1 by omega] at h
    rw [h, rd_drop (show i < l.length by omega), show k + 1 - (m + 1) - 1 = k - m - 1 by omega]
    simp
theorem step_f (x : S53) (hd : x.f5.f2.length ≤ 4096) (hx : ∀ y ∈ x.f5.f2, 0 ≤ y) :
    script_step.f 50000 x.f0 x.f1 x.f2 x.f3 x.f4 x.f5.f0 x.f5.f1 x.f5.f2 = some (encS x) := by
  unfold script_step.f script_numbers.f
  simp only [Option.bind_some]
  rw [if_pos (by simp)]
  have h := l0_eq x.f0 x.f1 x.f2 x.f3 x.f4 x.f5.f0 x.f5.f1 x.f5.f2 [x.f0, x.f1, x.f2, x.f3, x.f4, x.f5.f0, x.f5.f1] (by simp) 7 50000 0 [] (by omega) (by simp) (by simp)
  have h' : script_step.l0 50000 [] ([x.f0, x.f1, x.f2, x.f3, x.f4] ++ [x.f5.f0, x.f5.f1]) ((([x.f0, x.f1, x.f2, x.f3, x.f4] ++ [x.f5.f0, x.f5.f1]).length : Nat) : Int) 0 x.f0 x.f1 x.f2 x.f3 x.f4 x.f5.f0 x.f5.f1 x.f5.f2 = _ := h
  rw [h']
  have h1 := l1_eq x.f5.f2 hd hx x.f5.f2.length (50000 - 7 - 1) 0 ([] ++ ([x.f0, x.f1, x.f2, x.f3, x.f4, x.f5.f0, x.f5.f1].drop 0).map (· % 256)) (by omega) (by omega) (by simp; omega)
  have h2 : script_step.l1 (50000 - 7 - 1) ([] ++ ([x.f0, x.f1, x.f2, x.f3, x.f4, x.f5.f0, x.f5.f1].drop 0).map (· % 256)) x.f5.f2 x.f5.f2.length 0 = _ := h1
  rw [h2]
  simp [encS]

/-- a script's octets, from some on; none: too many -/
def putGo : List Int → List S53 → Option (List Int)
  | o, [] => some o
  | o, x :: l => if 65536 < (o ++ encS x).length then none else putGo (o ++ encS x) l
/-- a script's octets, and an error -/
def putF (l : List S53) : List Int × Int := if 256 < l.length then ([], 3) else if l.any badS then ([], 4) else if l.any badM then ([], 11) else match putGo [] l with
  | none => ([], 5)
  | some o => (o, 0)

theorem encS_len (x : S53) : (encS x).length = 7 + 8 * x.f5.f2.length := by
  simp [encS, encWs_len]; omega
theorem okM_len {y : S51} (h : okM y = true) : y.f2.length ≤ 4096 := by
  simp [okM] at h
  have := mul_bd h.1 h.2.1 h.2.2.1 h.2.2.2.1
  omega

set_option maxHeartbeats 800000 in
set_option maxRecDepth 100000 in
theorem put_err (A : Option Addr) (c : Nat) (l : List S53) (w : World) (hr : Kd.C k53 w A l.length l) (h : 256 < l.length ∨ l.any badS = true ∨ l.any badM = true) (hl : l.length ≤ 140737488351232) :
    Calls Try.prog 28 #[.slice A l.length c] w fun e w' => ∃ n, (putF l = ([], n) ∧ n ≠ 0) ∧ e = .returned (.tuple #[.slice none 0 0, .int .i64 n]) ∧ Below w.heap.size w w' := by
  have HR := Aside0.mk hr
  have HB := Aside0.mk (Below.refl w.heap.size w)
  clear hr
  by_cases h1 : 256 < l.length
  · have b1 : decide (256 < l.length) = true := by simpa using h1
    have b2 : decide ((256 : Int) < l.length) = true := by simp; omega
    have HP := Aside0.mk (show putF l = ([], 3) ∧ (3 : Int) ≠ 0 from ⟨by simp [putF, h1], by decide⟩)
    clear h h1
    go_enter Try.func28, Try.ntmps28
    go_wp2
    go_ret2
    exact ⟨3, HP.out, rfl, HB.out⟩
  · have b1 : decide (256 < l.length) = false := by simpa using h1
    have b2 : decide ((256 : Int) < l.length) = false := by simp; omega
    have hl2 : l.length ≤ 256 := by omega
    cases h2 : l.any badS
    · have h3 : l.any badM = true := by
        rcases h with h | h | h
        · exact absurd h h1
        · rw [h2] at h; cases h
        · exact h
      have HP := Aside0.mk (show putF l = ([], 11) ∧ (11 : Int) ≠ 0 from ⟨by simp only [putF]; rw [if_neg h1, h2, h3]; rfl, by decide⟩)
      have H2 := Aside0.mk h2
      have H3 := Aside0.mk h3
      clear h h1 h2 h3
      go_enter Try.func28, Try.ntmps28
      go_wp2_with fail
      refine (any_odd A c l _ hl2 HR.out).mono ?_
      rintro e w1 ⟨rfl, hb⟩
      rw [H2.out]
      have HB1 := Aside0.mk (below_step HB.out hb)
      clear hb HB
      go_wp2_with fail
      refine (any_unshaped A c l _ hl2 (Kd.C_below HR.out HB1.out)).mono ?_
      rintro e w2 ⟨rfl, hb⟩
      rw [H3.out]
      have HB := Aside0.mk (below_step HB1.out hb)
      clear hb HB1
      go_wp2
      go_ret2
      exact ⟨11, HP.out, rfl, HB.out⟩
    · have HP := Aside0.mk (show putF l = ([], 4) ∧ (4 : Int) ≠ 0 from ⟨by simp only [putF]; rw [if_neg h1, h2]; rfl, by decide⟩)
      have H2 := Aside0.mk h2
      clear h h1 h2
      go_enter Try.func28, Try.ntmps28
      go_wp2_with fail
      refine (any_odd A c l _ hl2 HR.out).mono ?_
      rintro e w1 ⟨rfl, hb⟩
      rw [H2.out]
      have HB1 := Aside0.mk (below_step HB.out hb)
      clear hb HB
      go_wp2
      go_ret2
      exact ⟨4, HP.out, rfl, HB1.out⟩

set_option maxHeartbeats 800000 in
set_option maxRecDepth 100000 in
theorem put_ok (A : Option Addr) (c : Nat) (l : List S53) (w : World) (hr : Kd.C k53 w A l.length l) (hl : l.length ≤ 256) (h2 : l.any badS = false) (h3 : l.any badM = false) (hx : ∀ x ∈ l, ∀ y ∈ x.f5.f2, 0 ≤ y) :
    Calls Try.prog 28 #[.slice A l.length c] w fun e w' => ∃ v L n, putF l = (L, n) ∧ e = .returned (.tuple #[v, .int .i64 n]) ∧ Kd.R (Kd.int .u8) 5 w' w.heap.size (fun _ => True) v L ∧ Below w.heap.size w w' := by
  have HR := Aside0.mk hr
  have HB := Aside0.mk (Below.refl w.heap.size w)
  have HO := Aside0.mk (show Kd.R (Kd.int .u8) 5 w w.heap.size (fun _ => True) (.slice none 0 0) ([] : List Int) from Kd.R_nil ..)
  have HX := Aside0.mk hx
  have HM := Aside0.mk (show ∀ x ∈ l, x.f5.f2.length ≤ 4096 from fun x hx => by
    have : badM x = false := by
      rw [List.any_eq_false] at h3
      simpa using h3 x hx
    exact okM_len (by simpa [badM] using this))
  have HP := Aside0.mk (show putF l = match putGo [] l with | none => ([], 5) | some o => (o, 0) by simp only [putF]; rw [if_neg (by omega), h2, h3]; rfl)
  have b1 : decide (256 < l.length) = false := by simp; omega
  have b2 : decide ((256 : Int) < l.length) = false := by simp; omega
  have H2 := Aside0.mk h2
  have H3 := Aside0.mk h3
  clear hr hx h2 h3
  go_enter Try.func28, Try.ntmps28
  go_wp2_with fail
  refine (any_odd A c l _ hl HR.out).mono ?_
  rintro e w1 ⟨rfl, hb⟩
  rw [H2.out]
  have HB1 := Aside0.mk (below_step HB.out hb)
  clear hb HB
  go_wp2_with fail
  refine (any_unshaped A c l _ hl (Kd.C_below HR.out HB1.out)).mono ?_
  rintro e w2 ⟨rfl, hb⟩
  rw [H3.out]
  have HB := Aside0.mk (below_step HB1.out hb)
  have HO2 := Aside0.mk (Kd.R_below HO.out HB.out)
  clear hb HB1 HO
  go_wp2
  go_loopw [4, 19] (fun v4 v19 wr => ∃ (i : Nat) (L : List Int), i ≤ l.length ∧ v19 = .int .i64 i ∧ Aside0 (putGo [] l = putGo L (l.drop i)) ∧ Aside0 (L.length ≤ 65536) ∧ Aside0 (Kd.R (Kd.int .u8) 5 wr w.heap.size (fun _ => True) v4 L) ∧ Aside0 (Below w.heap.size w wr)) (fun _ v19 _ => l.length - (intOf v19).toNat)
  case atStart => exact ⟨0, [], Nat.zero_le _, rfl, ⟨rfl⟩, ⟨by simp⟩, HO2, HB⟩
  case round =>
    clear HB HO2
    obtain ⟨i, L, hi, rfl, HG, HL, HO, HB⟩ := hrel
    by_cases hlt : i < l.length
    · obtain ⟨ad, A7, c7, rfl, x0, x1, x2, x3, x4, x5, x6, x7, l7, g7⟩ := at_T53 (Kd.C_below HR.out HB.out) (i : Int) (by omega) (by omega)
      rw [Int.toNat_natCast] at x0 x1 x2 x3 x4 x5 x6 x7
      have hmem : rd_T53 l i ∈ l := List.mem_of_mem_drop (i := i) (by rw [rdT_drop hlt]; simp)
      have HF := Aside0.mk (step_f (rd_T53 l i) (HM.out _ hmem) (HX.out _ hmem))
      have HN := Aside0.mk (encS_len (rd_T53 l i))
      have HM2 := Aside0.mk (HM.out _ hmem)
      have HD := Aside0.mk (rdT_drop hlt)
      have HC7 := Aside0.mk g7
      have HL7 := Aside0.mk l7
      clear hmem g7 l7
      obtain ⟨M, hM⟩ : ∃ M, L ++ encS (rd_T53 l i) = M := ⟨_, rfl⟩
      have HMM := Aside0.mk hM
      have HG2 := Aside0.mk (show putGo [] l = if 65536 < M.length then none else putGo M (l.drop (i + 1)) by rw [HG.out, HD.out]; simp only [putGo, hM])
      clear hM
      go_wp2_with fail
      refine (script_step.calls 50000 _ _ _ _ _ _ _ A7 c7 (rd_T53 l i).f5.f2 (encS (rd_T53 l i)) _ (Kd.C_alloc HC7.out _) HL7.out HF.out).mono ?_
      rintro e w3 ⟨v3, rfl, ho, hb⟩
      have HO1 := Aside0.mk (Kd.R_below (Kd.R_alloc HO.out _) hb)
      have HB1 := Aside0.mk (below_step (below_alloc HB.out _) hb)
      have HO3 := Aside0.mk (Kd.R_lower ho (below_size (below_alloc HB.out _)))
      clear ho hb HO HB
      obtain ⟨A3, c3, rfl⟩ := Kd.R_slice HO3.out
      by_cases hbig : 65536 < M.length
      · have HR1 := Aside0.mk (show putF l = ([], 5) by rw [HP.out, HG2.out, if_pos hbig])
        have b3 : decide (65536 < M.length) = true := by simpa using hbig
        have b4 : decide ((65536 : Int) < M.length) = true := by simp; omega
        clear hbig
        go_wp2_with (first | ((with_reducible refine gate_builtin (b := .append) (xs := #[.tmp 23, .tmp 25]) rfl ?_); at_builtin; refine Kd.R_append_rows (Kd.int .u8) (w0 := w) w.heap.size rfl (.tmp 23) (.tmp 25) 43 5 (.int .u8 0) 1 rfl Try.underlying43 info5 rfl (by decide) (by omega) u4 L (encS (rd_T53 l i)) _ _ _ (fun _ => True) (fun _ => False) rfl rfl ?aO ?aR (fun _ _ h => h) (fun _ h => h.elim) ?aF ?aB ?aS ?aL ?_; (case aR => exact (Kd.R_reads' HO3.out).2.2); (case aB => exact HB1.out); (case aF => exact (fun _ _ => trivial)); (case aO => exact HO1.out); (case aS => exact (below_size HB1.out)); (case aL => have := HN.out; have := HM2.out; have := HL.out; omega); intro v5 w5 ho hb hg hat; rw [HMM.out] at ho; clear HB1 HO1 HO3 hg hat; have HB := Aside0.mk hb; have HO := Aside0.mk ho; clear ho hb; obtain ⟨A5, c5, e5⟩ := Kd.R_slice HO.out; subst e5))
        go_ret2
        exact ⟨_, _, _, HR1.out, rfl, Kd.R_nil .., HB.out⟩
      · have HR1 := Aside0.mk (show putGo [] l = putGo M (l.drop (i + 1)) by rw [HG2.out, if_neg hbig])
        have b3 : decide (65536 < M.length) = false := by simpa using hbig
        have b4 : decide ((65536 : Int) < M.length) = false := by simp; omega
        have HML := Aside0.mk (show M.length ≤ 65536 by omega)
        clear hbig
        go_wp2_with (first | ((with_reducible refine gate_builtin (b := .append) (xs := #[.tmp 23, .tmp 25]) rfl ?_); at_builtin; refine Kd.R_append_rows (Kd.int .u8) (w0 := w) w.heap.size rfl (.tmp 23) (.tmp 25) 43 5 (.int .u8 0) 1 rfl Try.underlying43 info5 rfl (by decide) (by omega) u4 L (encS (rd_T53 l i)) _ _ _ (fun _ => True) (fun _ => False) rfl rfl ?aO ?aR (fun _ _ h => h) (fun _ h => h.elim) ?aF ?aB ?aS ?aL ?_; (case aR => exact (Kd.R_reads' HO3.out).2.2); (case aB => exact HB1.out); (case aF => exact (fun _ _ => trivial)); (case aO => exact HO1.out); (case aS => exact (below_size HB1.out)); (case aL => have := HN.out; have := HM2.out; have := HL.out; omega); intro v5 w5 ho hb hg hat; rw [HMM.out] at ho; clear HB1 HO1 HO3 hg hat; have HB := Aside0.mk hb; have HO := Aside0.mk ho; clear ho hb; obtain ⟨A5, c5, e5⟩ := Kd.R_slice HO.out; subst e5))
        go_roundw
        case rel => exact ⟨i + 1, M, by omega, by first | rfl | go_num, HR1, HML, HO, HB⟩
        case measure => (simp [intOf] <;> omega)
    · obtain rfl : i = l.length := by omega
      have HR1 := Aside0.mk (show putF l = (L, 0) by rw [HP.out, HG.out, List.drop_eq_nil_of_le (Nat.le_refl _)]; rfl)
      go_wp2
      go_ret2
      exact ⟨_, _, _, HR1.out, rfl, HO.out, HB.out⟩
end Go.Proofs.Ythmakmmfbdmdfaa.OwnSc
