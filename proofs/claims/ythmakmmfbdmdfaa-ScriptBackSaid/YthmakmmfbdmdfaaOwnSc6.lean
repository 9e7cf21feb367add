/- Scripts, walked: Read. -/
import Derived.Test.YthmakmmfbdmdfaaOwnSc5
import Derived.Shelf.Abstract
set_option linter.unusedVariables false
set_option linter.unusedSimpArgs false
namespace Go.Proofs.Ythmakmmfbdmdfaa.OwnSc
open Go.RowKit Go.Proofs.Ythmakmmfbdmdfaa.PScriptBack Go.Proofs.YthmakmmfbdmdfaaW.PrintWords Go.Proofs.YthmakmmfbdmdfaaW.PrintLast Go.Proofs.YthmakmmfbdmdfaaW.PrintMore
attribute [local go_sem] max2_int min2_int max_two min_two max_three min_three max_four min_four
attribute [local go_sem] Oper.semAt_some

/-- what Read answers -/
def readF (b : List Int) : List S53 × Int := if 65536 < b.length then ([], 5) else match readS b.length b with
  | none => ([], 33)
  | some xs => if 256 < xs.length then ([], 3) else (xs, 0)

/-- between two rounds -/
def JR (w : World) (o : Obj) (pre : List S53) (W : World) : Prop :=
  ∃ v, Boxed W (w.heap.size + 2) 42 v ∧ Kd.N k53 53 W (w.heap.size + 6) (fun k => w.heap.size + 6 ≤ k) v pre ∧ Boxed W w.heap.size 42 (.slice none 0 0) ∧ Boxed W (w.heap.size + 1) 29 (.int .i64 0) ∧
    W.heap[w.heap.size + 4 + 1]? = some o ∧ W.heap[w.heap.size + 4]? = some (.deferred (some [])) ∧ w.heap.size + 6 ≤ W.heap.size ∧ Below w.heap.size w W
/-- where a round has said no -/
def JX (w : World) (o : Obj) (W : World) : Prop :=
  Boxed W w.heap.size 42 (.slice none 0 0) ∧ Boxed W (w.heap.size + 1) 29 (.int .i64 33) ∧ W.heap[w.heap.size + 4 + 1]? = some o ∧ W.heap[w.heap.size + 4]? = some (.deferred (some [])) ∧ Below w.heap.size w W

theorem boxPut {W : World} {B l t : Nat} {v : Value} {o : Obj} (h : Boxed W B t v) (hne : B ≠ l) : Boxed (W.putObj l o) B t v := h.kept (grownBy_putObj' W l o) (by simpa using hne)
theorem grown_put {X : World} {o : Obj} (o' : Obj) (l : Nat) : X.grownBy ((X.alloc o).putObj l o') (some l) := by
  have h1 := World.grownBy_alloc X o none
  have h2 := grownBy_putObj' (X.alloc o) l o'
  exact ⟨h2.os.trans h1.os, h2.tape.trans h1.tape, h2.output.trans h1.output, Nat.le_trans h1.size h2.size, fun k hk hne => (h2.block k (Nat.lt_of_lt_of_le hk h1.size) hne).trans (h1.block k hk (by simp))⟩
theorem info53 : (Try.prog.info? 53).map (fun i => (i.zero, i.size, i.bytes)) = some (some (.agg #[.int .i64 0, .int .i64 0, .int .i64 0, .int .i64 0, .int .i64 0, .int .i64 0, .int .i64 0, .slice none 0 0]), 8, 80) := by kernel_rfl
theorem boxNew {W : World} {g t : Nat} {v : Value} (h : g = W.heap.size) : Boxed (W.alloc (.cells #[v] t)) g t v := by subst h; exact Boxed.new W t v
theorem JR_grown {w : World} {o : Obj} (pre : List S53) (X Y : World) (h : JR w o pre X) (hg : X.grownBy Y (some (w.heap.size + 3))) : JR w o pre Y := by
  obtain ⟨v, h1, h2, h3, h4, h5, h6, h7, h8⟩ := h
  refine ⟨v, h1.kept hg (by simp), Kd.N_grown h2 hg (fun k hk he => by injection he with he; omega), h3.kept hg (by simp), h4.kept hg (by simp), ?_, ?_, Nat.le_trans h7 hg.size, ?_⟩
  · rw [hg.block _ (by omega) (by simp)]; exact h5
  · rw [hg.block _ (by omega) (by simp)]; exact h6
  · exact h8.grown hg (by omega) (fun k he => by injection he with he; omega)

set_option maxHeartbeats 800000 in
set_option maxRecDepth 100000 in
theorem read_calls (A : Option Addr) (c : Nat) (b : List Int) (w : World) (hc : b.length ≤ c) (ho : oct b) (hr : Kd.C (Kd.int .u8) w A b.length b) :
    Calls Try.prog 29 #[.slice A b.length c] w fun e w' => ∃ v, e = .returned (.tuple #[v, .int .i64 (readF b).2]) ∧ Kd.N k53 53 w' w.heap.size (fun k => w.heap.size ≤ k) v (readF b).1 ∧ Below w.heap.size w w' := by
  have HR := Aside0.mk hr
  have HQ := Aside0.mk ho
  have HC := Aside0.mk hc
  clear hr ho hc
  refine (callsIn_wide (n := 5)).1 (callsIn_of_wp_marks Try.func29 rfl trivial ?_ rfl)
  refine wpIn_wide.2 ?_
  simp only [Try.ntmps29, List.size_toArray, List.length_cons, List.length_nil, Nat.reduceAdd, Nat.reduceSub, Array.replicate_succ, Array.replicate_zero, List.push_toArray, List.append_toArray, List.nil_append, List.cons_append]
  by_cases h0 : 65536 < b.length
  · have b1 : decide (65536 < b.length) = true := decide_eq_true h0
    have b2 : decide ((65536 : Int) < b.length) = true := decide_eq_true (by omega)
    have HP := Aside0.mk (show readF b = ([], 5) by simp only [readF]; rw [if_pos h0])
    go_wp2
    refine ⟨.tuple #[.slice none 0 0, .int .i64 5], by simp [results, Try.results29, go_sem], .slice none 0 0, by rw [HP.out], by rw [HP.out]; exact Kd.N_nil .., ?_⟩
    exact ((Below.refl w.heap.size w).alloc (Nat.le_refl _) _).alloc (by simp) _
  · have b1 : decide (65536 < b.length) = false := decide_eq_false h0
    have b2 : decide ((65536 : Int) < b.length) = false := decide_eq_false (by omega)
    have hbl : b.length ≤ 65536 := by omega
    go_wp2_with fail
    refine (steps_calls A b.length c _).mono ?_
    rintro e w1 ⟨rfl, rfl⟩
    go_wp2
    obtain ⟨wL, hwL⟩ : ∃ wL : World, wL = (((w.alloc (.cells #[.slice none 0 0] 42)).alloc (.cells #[.int .i64 0] 29)).alloc (.cells #[.slice none 0 0] 42)).alloc (.cells #[.slice A b.length c] 43) := ⟨_, rfl⟩
    have hsz : wL.heap.size = w.heap.size + 4 := by rw [hwL]; simp
    have hL0 : Boxed wL w.heap.size 42 (.slice none 0 0) := by rw [hwL]; exact (((boxNew rfl).alloc _).alloc _).alloc _
    have hL1 : Boxed wL (w.heap.size + 1) 29 (.int .i64 0) := by rw [hwL]; exact ((boxNew (by simp)).alloc _).alloc _
    have hL2 : Boxed wL (w.heap.size + 2) 42 (.slice none 0 0) := by rw [hwL]; exact (boxNew (by simp)).alloc _
    have hL3 : Boxed wL (w.heap.size + 3) 43 (.slice A b.length c) := by rw [hwL]; exact boxNew (by simp)
    have hLB : Below w.heap.size w wL := by rw [hwL]; exact ((((Below.refl w.heap.size w).alloc (Nat.le_refl _) _).alloc (by simp) _).alloc (by simp <;> omega) _).alloc (by simp <;> omega) _
    rw [← hwL]
    clear hwL
    refine OwnRf.rangeFunc_law rfl (Go.Proofs.enters_of Try.func78 (by kernel_rfl) rfl) ?_
    rw [hsz]
    intro rec hyield
    have HYD := Aside0.mk hyield
    clear hyield
    obtain ⟨W1, hW1⟩ : ∃ W1 : World, W1 = (wL.alloc (.deferred (some []))).alloc (.loop (rec .ready none)) := ⟨_, rfl⟩
    have hs1 : W1.heap.size = w.heap.size + 6 := by rw [hW1]; simp [hsz]
    have h1B : Below w.heap.size w W1 := by rw [hW1]; exact (hLB.alloc (by omega) _).alloc (by simp <;> omega) _
    have h13 : Boxed W1 (w.heap.size + 3) 43 (.slice A b.length c) := by rw [hW1]; exact (hL3.alloc _).alloc _
    have h1J : JR w (.loop (rec .ready none)) [] W1 := by
      refine ⟨.slice none 0 0, by rw [hW1]; exact (hL2.alloc _).alloc _, Kd.N_nil .., by rw [hW1]; exact (hL0.alloc _).alloc _, by rw [hW1]; exact (hL1.alloc _).alloc _, ?_, ?_, by omega, h1B⟩
      · rw [hW1]; have := World.alloc_heap_new (wL.alloc (.deferred (some []))) (.loop (rec .ready none)); rw [World.size_alloc, hsz] at this; exact this
      · rw [hW1]; have := World.alloc_heap_new wL (.deferred (some [])); rw [hsz] at this; exact (Below.heap_alloc _ _ _ (by simp <;> omega)).trans this
    rw [← hW1]
    clear hW1 hL0 hL1 hL2 hL3 hLB
    refine (iter_calls w A c b hbl HC.out HQ.out HR.out (w.heap.size + 4 + 1) (w.heap.size + 3) (by omega) W1 h1B h13 (JR w (.loop (rec .ready none))) (JX w (.loop (rec .done (some .ret)))) (fun pre X Y h hg => JR_grown pre X Y h hg) ?hY1 ?hY0 h1J).mono ?fin
    case hY0 =>
      intro pre X hJ
      obtain ⟨v, k1, k2, k3, k4, k5, k6, k7, k8⟩ := hJ
      refine HYD.out _ X _ rfl k5 ?_
      gi_wp2
      refine ⟨(Below.heap_alloc _ _ _ (World.lt_of_heap k5)).trans k5, ?_⟩
      obtain ⟨Y0, hY0⟩ : ∃ Y0 : World, Y0 = (X.alloc (.cells #[.int .i64 0, .int .i64 0, .int .i64 0, .int .i64 0, .int .i64 0, .int .i64 0, .int .i64 0, .slice none 0 0] 53)).putObj (w.heap.size + 4 + 1) (.loop (rec .busy none)) := ⟨_, rfl⟩
      have hgX : X.grownBy Y0 (some (w.heap.size + 4 + 1)) := by
        rw [hY0]
        have h1 := World.grownBy_alloc X (.cells #[.int .i64 0, .int .i64 0, .int .i64 0, .int .i64 0, .int .i64 0, .int .i64 0, .int .i64 0, .slice none 0 0] 53) none
        have h2 := grownBy_putObj' (X.alloc (.cells #[.int .i64 0, .int .i64 0, .int .i64 0, .int .i64 0, .int .i64 0, .int .i64 0, .int .i64 0, .slice none 0 0] 53)) (w.heap.size + 4 + 1) (.loop (rec .busy none))
        exact ⟨h2.os.trans h1.os, h2.tape.trans h1.tape, h2.output.trans h1.output, Nat.le_trans h1.size h2.size, fun k hk hne => (h2.block k (Nat.lt_of_lt_of_le hk h1.size) hne).trans (h1.block k hk (by simp))⟩
      have m3 := k3.kept hgX (by simp <;> omega)
      have m4 := k4.kept hgX (by simp <;> omega)
      have m5 : Y0.heap[w.heap.size + 4 + 1]? = some (.loop (rec .busy none)) := by rw [hY0]; exact World.putObj_heap_same (by simp; have := World.lt_of_heap k5; omega)
      have m6 := (hgX.block _ (World.lt_of_heap k6) (by simp)).trans k6
      have m8 := k8.grown hgX k8.size (fun k he => by injection he with he; omega)
      have M3 := Aside0.mk m3
      have M4 := Aside0.mk m4
      have M5 := Aside0.mk m5
      have M6 := Aside0.mk m6
      have M8 := Aside0.mk m8
      have c0 := m3.cell
      have f0 := m3.frozen
      have c1 := m4.cell
      have f1 := m4.frozen
      rw [← hY0]
      clear hY0 hgX m3 m4 m5 m6 m8 k1 k2 k3 k4 k5 k6 k7 k8
      gi_wp2
      refine ⟨?_, rfl, ?_, ?_, ?_, ?_, ?_⟩
      · rw [Below.heap_setCell _ _ _ _ (by simp <;> omega), Below.heap_setCell _ _ _ _ (by simp <;> omega)]; exact M5.out
      · exact boxPut (Boxed.other (M3.out.set _) (by omega) _) (by omega)
      · exact boxPut ((Boxed.other M4.out (by omega) _).set _) (by omega)
      · exact World.putObj_heap_same (World.lt_of_heap (o := .loop (rec .busy none)) (by rw [Below.heap_setCell _ _ _ _ (by simp <;> omega), Below.heap_setCell _ _ _ _ (by simp <;> omega)]; exact M5.out))
      · rw [World.putObj_heap_other (by omega), Below.heap_setCell _ _ _ _ (by simp <;> omega), Below.heap_setCell _ _ _ _ (by simp <;> omega)]; exact M6.out
      · exact (((M8.out.setCell (p := ⟨w.heap.size, 0, none⟩) (Nat.le_refl _) _).setCell (p := ⟨w.heap.size + 1, 0, none⟩) (by simp) _)).grown (grownBy_putObj' _ _ _) (by
          have := M8.out.size
          simp [World.setCell]; exact this) (fun k he => by injection he with he; omega)
    case hY1 =>
      intro pre x A' c' X0 X hJ hg hpre hlc hF
      have hv0 := hJ
      obtain ⟨v0, q1, hn0, _, _, _, _, hs0, _⟩ := hv0
      obtain ⟨v, k1, k2, k3, k4, k5, k6, k7, k8⟩ := JR_grown pre X0 X hJ hg
      refine HYD.out _ X _ rfl k5 ?_
      simp only [valS]
      gi_wp2
      refine ⟨(Below.heap_alloc _ _ _ (World.lt_of_heap k5)).trans k5, ?_⟩
      obtain ⟨cs, hcs⟩ : ∃ cs : List Value, cs = [.int .i64 x.f0, .int .i64 x.f1, .int .i64 x.f2, .int .i64 x.f3, .int .i64 x.f4, .int .i64 x.f5.f0, .int .i64 x.f5.f1, .slice A' x.f5.f2.length c'] := ⟨_, rfl⟩
      have hFK : Kd.FK k53 X (fun k => X0.heap.size ≤ k) x cs := fun W' hW => by rw [hcs]; exact k53_mk W' x hlc (hF W' hW)
      obtain ⟨Y0, hY0⟩ : ∃ Y0 : World, Y0 = (X.alloc (.cells #[.int .i64 x.f0, .int .i64 x.f1, .int .i64 x.f2, .int .i64 x.f3, .int .i64 x.f4, .int .i64 x.f5.f0, .int .i64 x.f5.f1, .slice A' x.f5.f2.length c'] 53)).putObj (w.heap.size + 4 + 1) (.loop (rec .busy none)) := ⟨_, rfl⟩
      have hgX : X.grownBy Y0 (some (w.heap.size + 4 + 1)) := by rw [hY0]; exact grown_put _ _
      have hXl := World.lt_of_heap k5
      have m1 := k1.kept hgX (by simp <;> omega)
      have m2 := Kd.N_grown k2 hgX (fun k hk he => by injection he with he; omega)
      have mK := Kd.FK_grown hFK hgX (fun k hk he => by injection he with he; omega)
      have m3 := k3.kept hgX (by simp <;> omega)
      have m4 := k4.kept hgX (by simp <;> omega)
      have m5 : Y0.heap[w.heap.size + 4 + 1]? = some (.loop (rec .busy none)) := by rw [hY0]; exact World.putObj_heap_same (by simp; omega)
      have m6 := (hgX.block _ (World.lt_of_heap k6) (by simp)).trans k6
      have m8 := k8.grown hgX k8.size (fun k he => by injection he with he; omega)
      have m7 : w.heap.size + 6 ≤ Y0.heap.size := Nat.le_trans k7 hgX.size
      obtain ⟨y0, y1, y2, y3, y4, y5, y6, y7⟩ := cells8 (show Y0.heap[X.heap.size]? = some (.cells #[.int .i64 x.f0, .int .i64 x.f1, .int .i64 x.f2, .int .i64 x.f3, .int .i64 x.f4, .int .i64 x.f5.f0, .int .i64 x.f5.f1, .slice A' x.f5.f2.length c'] 53 (0, 0)) by
        rw [hY0, World.putObj_heap_other (by omega)]; exact World.alloc_heap_new X _)
      have hne : ∀ k, v.ownBlock = some k → k < X0.heap.size := by
        have hv : v = v0 := by
          have h1 := q1.kept hg (by simp)
          have h2 : X.heap[w.heap.size + 2]? = _ := h1
          rw [show X.heap[w.heap.size + 2]? = _ from k1] at h2
          injection h2 with h2
          injection h2 with h2
          simpa using h2
        rw [hv]; exact Kd.N_lt hn0
      have M9 := Aside0.mk (hgX.block (w.heap.size + 3) (by omega) (by simp))
      have M10 := Aside0.mk ((Below.refl w.heap.size X).grown hgX k8.size (fun k he => by injection he with he; omega))
      have M1 := Aside0.mk m1
      have M2 := Aside0.mk m2
      have MK := Aside0.mk mK
      have M3 := Aside0.mk m3
      have M4 := Aside0.mk m4
      have M5 := Aside0.mk m5
      have M6 := Aside0.mk m6
      have M7 := Aside0.mk m7
      have M8 := Aside0.mk m8
      have HCS := Aside0.mk hcs
      have c2 := m1.cell
      have f2 := m1.frozen
      rw [← hY0]
      clear q1 hn0 hY0 hgX m1 m2 m3 m4 m5 m6 m7 m8 mK hFK hF hcs k1 k2 k3 k4 k5 k6 k7 k8
      refine wpIn_block ?_
      refine wpIn_seq_k (fun K9 hK9 => ?_)
      have HK9 := Aside0.mk hK9
      clear hK9
      gi_wp2
      refine HK9.out _ _ ?_
      clear HK9
      refine OwnRf.region_inRound (id := 9) ?_ ?_
      · rfl
      go_wp2_with (first | ((with_reducible refine gate_builtin (b := .append) (xs := #[.tmp 16, .tmp 18]) rfl ?_); at_builtin; refine Kd.N_append k53 (w0 := Y0) (w.heap.size + 6) rfl (.tmp 16) (.tmp 18) 42 53 _ 80 rfl Try.underlying42 info53 rfl (by decide) (by omega) v pre x [.int .i64 x.f0, .int .i64 x.f1, .int .i64 x.f2, .int .i64 x.f3, .int .i64 x.f4, .int .i64 x.f5.f0, .int .i64 x.f5.f1, .slice A' x.f5.f2.length c'] (fun k => w.heap.size + 6 ≤ k) (fun k => X0.heap.size ≤ k) rfl rfl ?aP ?aK ?aF ?aO ?aB ?aS ?aL ?_; (case aP => rw [← HCS.out]; exact MK.out); (case aK => exact fun k hk => ⟨Nat.le_trans hs0 hk, fun he => by have := hne k he.symm; omega⟩); (case aF => exact fun k hk => Nat.le_trans M7.out hk); (case aO => exact M2.out); (case aB => exact Below.refl _ _); (case aS => exact M7.out); (case aL => omega); intro v1 w6 ho hb hg6 hat; have hbx := M1.out.kept hg6 (fun he => by have := Kd.N_base M2.out _ he.symm; omega); obtain ⟨A1, c1, rfl⟩ := Kd.N_slice ho; have c26 := hbx.cell; have f26 := hbx.frozen))
      have hown : ∀ k, k < w.heap.size + 6 → some k ≠ v.ownBlock := fun k hk he => by have := Kd.N_base M2.out _ he.symm; omega
      have hb6 : Below w.heap.size X w6 := M10.out.grown hg6 (by have := M8.out.size; omega) (fun k he => by have := Kd.N_base M2.out _ he; omega)
      have hs6 := hg6.size
      have h7 := M7.out
      have b3 := M3.out.kept hg6 (hown _ (by omega))
      have b4 := M4.out.kept hg6 (hown _ (by omega))
      have b5 := (hg6.block _ (by omega) (hown _ (by omega))).trans M5.out
      have b6 := (hg6.block _ (by omega) (hown _ (by omega))).trans M6.out
      have b8 := M8.out.grown hg6 M8.out.size (fun k he => by have := Kd.N_base M2.out _ he; omega)
      have b9 := (hg6.block _ (by omega) (hown (w.heap.size + 3) (by omega))).trans M9.out
      have hsz9 : (w6.setCell ⟨w.heap.size + 1 + 1, 0, none⟩ (.slice A1 (pre.length + 1) c1)).heap.size = w6.heap.size := by simp [World.setCell]
      simp only [List.length_append, List.length_cons, List.length_nil, Nat.zero_add] at ho
      refine ⟨?_, rfl, ⟨_, boxPut (hbx.set _) (by omega), Kd.N_grown (Kd.N_far ho (p := ⟨w.heap.size + 1 + 1, 0, none⟩) (fun k hk he => by simp at he; omega) _) (grownBy_putObj' _ _ _) (fun k hk he => by injection he with he; omega), boxPut (Boxed.other b3 (by omega) _) (by omega), boxPut (Boxed.other b4 (by omega) _) (by omega), ?_, ?_, ?_, ?_⟩, ?_, ?_⟩
      · rw [Below.heap_setCell _ _ _ _ (by simp <;> omega)]; exact b5
      · exact World.putObj_heap_same (by rw [hsz9]; omega)
      · rw [World.putObj_heap_other (by omega), Below.heap_setCell _ _ _ _ (by simp <;> omega)]; exact b6
      · rw [World.putObj_size, hsz9]; omega
      · exact (b8.setCell (p := ⟨w.heap.size + 1 + 1, 0, none⟩) (by simp <;> omega) _).grown (grownBy_putObj' _ _ _) (by rw [hsz9]; omega) (fun k he => by injection he with he; omega)
      · rw [World.putObj_heap_other (by omega), Below.heap_setCell _ _ _ _ (by simp <;> omega)]; exact b9
      · exact (hb6.setCell (p := ⟨w.heap.size + 1 + 1, 0, none⟩) (by simp <;> omega) _).grown (grownBy_putObj' _ _ _) (by rw [hsz9]; omega) (fun k he => by injection he with he; omega)
    case fin =>
      rintro e W3 ⟨hv, (⟨xs, hxs, hj⟩ | ⟨hno, hj⟩)⟩
      · obtain ⟨v, k1, k2, k3, k4, k5, k6, k7, k8⟩ := hj
        refine ⟨hv, .inl ⟨k5, ?_⟩⟩
        obtain ⟨W4, hW4⟩ : ∃ W4 : World, W4 = W3.putObj (w.heap.size + 4 + 1) (.loop (rec .exhausted none)) := ⟨_, rfl⟩
        rw [← hW4]
        have hg4 : W3.grownBy W4 (some (w.heap.size + 4 + 1)) := by rw [hW4]; exact grownBy_putObj' _ _ _
        have m1 := k1.kept hg4 (by simp <;> omega)
        have m2 := Kd.N_grown k2 hg4 (fun k hk he => by injection he with he; omega)
        have m3 := k3.kept hg4 (by simp <;> omega)
        have m4 := k4.kept hg4 (by simp <;> omega)
        have m6 := (hg4.block _ (World.lt_of_heap k6) (by simp)).trans k6
        have m8 := k8.grown hg4 k8.size (fun k he => by injection he with he; omega)
        have m9 := Nat.le_trans k7 hg4.size
        obtain ⟨A1, c1, rfl⟩ := Kd.N_slice m2
        have M1 := Aside0.mk m1
        have M2 := Aside0.mk m2
        have M3 := Aside0.mk m3
        have M4 := Aside0.mk m4
        have M6 := Aside0.mk m6
        have M8 := Aside0.mk m8
        have M9 := Aside0.mk m9
        have c0 := m3.cell
        have f0 := m3.frozen
        have c1' := m4.cell
        have f1' := m4.frozen
        have c2' := m1.cell
        have HXS := Aside0.mk hxs
        clear hW4 hg4 m1 m2 m3 m4 m6 m8 m9 k1 k2 k3 k4 k5 k6 k7 k8 hv hxs h1J h13 h1B HYD
        by_cases h2 : 256 < xs.length
        · have b3 : decide (256 < xs.length) = true := decide_eq_true h2
          have b4 : decide ((256 : Int) < xs.length) = true := decide_eq_true (by omega)
          have HP := Aside0.mk (show readF b = ([], 3) by simp only [readF]; rw [if_neg h0, HXS.out]; simp only []; rw [if_pos h2])
          go_wp2
          obtain ⟨W5, hW5⟩ : ∃ W5 : World, W5 = (W4.setCell ⟨w.heap.size, 0, none⟩ (.slice none 0 0)).setCell ⟨w.heap.size + 1, 0, none⟩ (.int .i64 3) := ⟨_, rfl⟩
          rw [← hW5]
          have q0 : Boxed W5 w.heap.size 42 (.slice none 0 0) := by rw [hW5]; exact Boxed.other (M3.out.set _) (by omega) _
          have q1 : Boxed W5 (w.heap.size + 1) 29 (.int .i64 3) := by rw [hW5]; exact (Boxed.other M4.out (by omega) _).set _
          have q6 : W5.heap[w.heap.size + 4]? = some (.deferred (some [])) := by rw [hW5, Below.heap_setCell _ _ _ _ (by simp <;> omega), Below.heap_setCell _ _ _ _ (by simp <;> omega)]; exact M6.out
          have q8 : Below w.heap.size w W5 := by rw [hW5]; exact (M8.out.setCell (p := ⟨w.heap.size, 0, none⟩) (Nat.le_refl _) _).setCell (p := ⟨w.heap.size + 1, 0, none⟩) (by simp) _
          have cc0 := (boxPut (o := .deferred none) q0 (show w.heap.size ≠ w.heap.size + 4 by omega)).cell
          have cc1 := (boxPut (o := .deferred none) q1 (show w.heap.size + 1 ≠ w.heap.size + 4 by omega)).cell
          refine ⟨by simp, .inl ⟨_, _, rfl, run_takeDeferred q6, ?_⟩⟩
          refine ⟨.tuple #[(.slice none 0 0), .int .i64 3], by simp [results, Try.results29, go_sem, cc0, cc1], (.slice none 0 0), by rw [HP.out], by rw [HP.out]; exact Kd.N_nil .., ?_⟩
          exact q8.grown (grownBy_putObj' _ _ _) q8.size (fun k he => by injection he with he; omega)
        · have b3 : decide (256 < xs.length) = false := decide_eq_false h2
          have b4 : decide ((256 : Int) < xs.length) = false := decide_eq_false (by omega)
          have HP := Aside0.mk (show readF b = (xs, 0) by simp only [readF]; rw [if_neg h0, HXS.out]; simp only []; rw [if_neg h2])
          go_wp2
          obtain ⟨W5, hW5⟩ : ∃ W5 : World, W5 = (W4.setCell ⟨w.heap.size, 0, none⟩ (.slice A1 xs.length c1)).setCell ⟨w.heap.size + 1, 0, none⟩ (.int .i64 0) := ⟨_, rfl⟩
          rw [← hW5]
          have q0 : Boxed W5 w.heap.size 42 (.slice A1 xs.length c1) := by rw [hW5]; exact Boxed.other (M3.out.set _) (by omega) _
          have q1 : Boxed W5 (w.heap.size + 1) 29 (.int .i64 0) := by rw [hW5]; exact (Boxed.other M4.out (by omega) _).set _
          have q6 : W5.heap[w.heap.size + 4]? = some (.deferred (some [])) := by rw [hW5, Below.heap_setCell _ _ _ _ (by simp <;> omega), Below.heap_setCell _ _ _ _ (by simp <;> omega)]; exact M6.out
          have q8 : Below w.heap.size w W5 := by rw [hW5]; exact (M8.out.setCell (p := ⟨w.heap.size, 0, none⟩) (Nat.le_refl _) _).setCell (p := ⟨w.heap.size + 1, 0, none⟩) (by simp) _
          have cc0 := (boxPut (o := .deferred none) q0 (show w.heap.size ≠ w.heap.size + 4 by omega)).cell
          have cc1 := (boxPut (o := .deferred none) q1 (show w.heap.size + 1 ≠ w.heap.size + 4 by omega)).cell
          have qN := Kd.N_mono (ok' := fun k => w.heap.size ≤ k) (Kd.N_lower (base' := w.heap.size) (Kd.N_grown (show Kd.N k53 53 W5 (w.heap.size + 6) (fun k => w.heap.size + 6 ≤ k) (.slice A1 xs.length c1) xs by rw [hW5]; exact Kd.N_far (Kd.N_far M2.out (p := ⟨w.heap.size, 0, none⟩) (fun k hk he => by simp at he; omega) _) (p := ⟨w.heap.size + 1, 0, none⟩) (fun k hk he => by simp at he; omega) _) (grownBy_putObj' W5 (w.heap.size + 4) (.deferred none)) (fun k hk he => by injection he with he; omega)) (by omega)) (fun k hk => by omega)
          refine ⟨by simp, .inl ⟨_, _, rfl, run_takeDeferred q6, ?_⟩⟩
          refine ⟨.tuple #[(.slice A1 xs.length c1), .int .i64 0], by simp [results, Try.results29, go_sem, cc0, cc1], (.slice A1 xs.length c1), by rw [HP.out], by rw [HP.out]; exact qN, ?_⟩
          exact q8.grown (grownBy_putObj' _ _ _) q8.size (fun k he => by injection he with he; omega)
      · obtain ⟨k3, k4, k5, k6, k8⟩ := hj
        refine ⟨hv, .inr ⟨k5, ?_⟩⟩
        obtain ⟨W4, hW4⟩ : ∃ W4 : World, W4 = W3.putObj (w.heap.size + 4 + 1) (.loop (rec .exhausted (some .ret))) := ⟨_, rfl⟩
        rw [← hW4]
        have hg4 : W3.grownBy W4 (some (w.heap.size + 4 + 1)) := by rw [hW4]; exact grownBy_putObj' _ _ _
        have m3 := k3.kept hg4 (by simp <;> omega)
        have m4 := k4.kept hg4 (by simp <;> omega)
        have m6 := (hg4.block _ (World.lt_of_heap k6) (by simp)).trans k6
        have m8 := k8.grown hg4 k8.size (fun k he => by injection he with he; omega)
        have HP : readF b = ([], 33) := by simp only [readF]; rw [if_neg h0, hno]
        have c0 := (boxPut (o := .deferred none) m3 (show w.heap.size ≠ w.heap.size + 4 by omega)).cell
        have c1 := (boxPut (o := .deferred none) m4 (show w.heap.size + 1 ≠ w.heap.size + 4 by omega)).cell
        refine ⟨by simp, .inl ⟨_, _, rfl, run_takeDeferred m6, ?_⟩⟩
        refine ⟨.tuple #[.slice none 0 0, .int .i64 33], by simp [results, Try.results29, go_sem, c0, c1], .slice none 0 0, by rw [HP], by rw [HP]; exact Kd.N_nil .., ?_⟩
        exact m8.grown (grownBy_putObj' _ _ _) m8.size (fun k he => by injection he with he; omega)
end Go.Proofs.Ythmakmmfbdmdfaa.OwnSc
