/- The given contracts of the print: what the leaves compute, each within its bounds. -/
import Derived.Test.YtmbdbkcifmkpbaaGreatDoorCOwnQ

set_option linter.unusedVariables false
namespace Go.Proofs.YtmbdbkcifmkpbaaGreatDoor.PResid
open Go.RowKit Go.Proofs.YtmbdbkcifmkpbaaGreatDoorW.PrintWords Go.Proofs.YtmbdbkcifmkpbaaGreatDoorW.PrintLast Go.Proofs.YtmbdbkcifmkpbaaGreatDoorW.PrintMore
open Go.Proofs.YtmbdbkcifmkpbaaGreatDoor.OwnA (u64s Glob glob_below finF signF shlF toldF normF addF cmpF subF mulF)
/-- limbs -/
def okU (l : List Int) : Bool := l.all (fun y => decide (0 ≤ y) && decide (y < 18446744073709551616))
theorem okU_iff {l : List Int} : okU l = true ↔ u64s l := by
  unfold okU OwnA.u64s
  simp [List.all_eq_true]
/-- limbs, not too many -/
def okL (l : List Int) : Bool := decide (l.length ≤ 100000) && l.all (fun y => decide (0 ≤ y) && decide (y < 18446744073709551616))
theorem okL_iff {l : List Int} : okL l = true ↔ l.length ≤ 100000 ∧ u64s l := by
  unfold okL OwnA.u64s
  simp [List.all_eq_true]
theorem given {α : Type} {c : Bool} {x r : α} (h : (if c = true then some x else none) = some r) : c = true ∧ x = r := by
  by_cases hc : c = true
  · rw [if_pos hc] at h
    exact ⟨hc, Option.some.inj h⟩
  · rw [if_neg hc] at h
    exact absurd h (by simp)
def shape_Finite.f (a0_0 : Int) (a0_1 : Int) (l0_2 : List Int) : Option (Int) := if okU l0_2 = true then some (finF a0_0 a0_1 l0_2) else none
theorem shape_Finite.calls (a0_0 : Int) (a0_1 : Int) (A0_2 : Option Addr) (c0_2 : Nat) (l0_2 : List Int) (r : Int) (w : World) (hr0_2 : Kd.C (Kd.int .u64) w A0_2 l0_2.length l0_2) (hc0_2 : l0_2.length ≤ c0_2) (h : shape_Finite.f a0_0 a0_1 l0_2 = some r) :
    Calls Tryz.prog 9 #[.agg #[.int .i64 a0_0, .int .i64 a0_1, .slice A0_2 l0_2.length c0_2]] w fun e w' => e = .returned (.int .i64 r) ∧ Below w.heap.size w w' := by
  obtain ⟨hk, rfl⟩ := given h
  exact OwnA.finite_calls a0_0 a0_1 A0_2 c0_2 l0_2 w hc0_2 (okU_iff.1 hk) hr0_2

def whole_Sign.f (a0_0 : Bool) (l0_1 : List Int) : Option (Int) := if okL l0_1 = true then some (signF a0_0 l0_1) else none
theorem whole_Sign.calls (a0_0 : Bool) (A0_1 : Option Addr) (c0_1 : Nat) (l0_1 : List Int) (r : Int) (w : World) (hr0_1 : Kd.C (Kd.int .u64) w A0_1 l0_1.length l0_1) (hc0_1 : l0_1.length ≤ c0_1) (h : whole_Sign.f a0_0 l0_1 = some r) :
    Calls Tryz.prog 93 #[.agg #[.bool a0_0, .slice A0_1 l0_1.length c0_1]] w fun e w' => e = .returned (.int .i64 r) ∧ Below w.heap.size w w' := by
  obtain ⟨hk, rfl⟩ := given h
  obtain ⟨hl, hu⟩ := okL_iff.1 hk
  exact OwnA.sign_calls a0_0 A0_1 c0_1 l0_1 w (by omega) hc0_1 hu hr0_1

def natdiv_shl.f (l0 : List Int) (a1 : Int) : Option (List Int) := if (okL l0 && (decide (0 ≤ a1) && decide (a1 ≤ 65536))) = true then some (shlF l0 a1) else none
theorem natdiv_shl.calls (A0 : Option Addr) (c0 : Nat) (l0 : List Int) (a1 : Int) (r : List Int) (w : World) (hr0 : Kd.C (Kd.int .u64) w A0 l0.length l0) (hc0 : l0.length ≤ c0) (h : natdiv_shl.f l0 a1 = some r) :
    Calls Tryz.prog 111 #[.slice A0 l0.length c0, .int .i64 a1] w fun e w' => ∃ v0_ : Value, e = .returned (v0_) ∧ Kd.R (Kd.int .u64) 58 w' w.heap.size (fun _ => True) v0_ r ∧ Below w.heap.size w w' := by
  obtain ⟨hk, rfl⟩ := given h
  rw [Bool.and_eq_true, Bool.and_eq_true, decide_eq_true_iff, decide_eq_true_iff] at hk
  obtain ⟨hl, hu⟩ := okL_iff.1 hk.1
  exact OwnA.shl_calls A0 c0 l0 a1 w hl hc0 hk.2.1 hk.2.2 hu hr0

def dyadic_told.f (a0_0 : Bool) (l0_1 : List Int) (a1 : Int) : Option (Bool × List Int × Int × Int) := if (okL l0_1 && (decide (-1000000 ≤ a1) && decide (a1 ≤ 1000000))) = true then some ((toldF a0_0 l0_1 a1).neg, (toldF a0_0 l0_1 a1).abs, (toldF a0_0 l0_1 a1).exp, (toldF a0_0 l0_1 a1).e) else none
theorem dyadic_told.calls (a0_0 : Bool) (A0_1 : Option Addr) (c0_1 : Nat) (l0_1 : List Int) (a1 : Int) (r1 : Bool) (r2 : List Int) (r3 : Int) (r4 : Int) (w : World) (hr0_1 : Kd.C (Kd.int .u64) w A0_1 l0_1.length l0_1) (hc0_1 : l0_1.length ≤ c0_1) (h : dyadic_told.f a0_0 l0_1 a1 = some (r1, r2, r3, r4)) (hG : Glob w := by exact glb HG.out) :
    Calls Tryz.prog 90 #[.agg #[.bool a0_0, .slice A0_1 l0_1.length c0_1], .int .i64 a1] w fun e w' => ∃ v1_ : Value, e = .returned (.tuple #[.agg #[.bool r1, v1_, .int .i64 r3], .int .i64 r4]) ∧ Kd.R (Kd.int .u64) 58 w' w.heap.size (fun _ => True) v1_ r2 ∧ Below w.heap.size w w' := by
  obtain ⟨hk, hv⟩ := given h
  rw [Bool.and_eq_true, Bool.and_eq_true, decide_eq_true_iff, decide_eq_true_iff] at hk
  obtain ⟨hl, hu⟩ := okL_iff.1 hk.1
  simp only [Prod.mk.injEq] at hv
  obtain ⟨rfl, rfl, rfl, rfl⟩ := hv
  exact OwnA.told_calls a0_0 A0_1 c0_1 l0_1 a1 w hl hc0_1 hu hr0_1 hG hk.2.1 hk.2.2

def whole_made.f (a0 : Bool) (l1 : List Int) : Option (Bool × List Int) := if okL l1 = true then some (a0 && decide (0 < (normF l1).length), normF l1) else none
theorem whole_made.calls (a0 : Bool) (A1 : Option Addr) (c1 : Nat) (l1 : List Int) (r1 : Bool) (r2 : List Int) (w : World) (hr1 : Kd.C (Kd.int .u64) w A1 l1.length l1) (hc1 : l1.length ≤ c1) (h : whole_made.f a0 l1 = some (r1, r2)) :
    Calls Tryz.prog 115 #[.bool a0, .slice A1 l1.length c1] w fun e w' => ∃ v1_ : Value, e = .returned (.agg #[.bool r1, v1_]) ∧ Kd.R (Kd.int .u64) 58 w' w.heap.size (fun _ => True) v1_ r2 ∧ Below w.heap.size w w' := by
  obtain ⟨hk, hv⟩ := given h
  obtain ⟨hl, hu⟩ := okL_iff.1 hk
  simp only [Prod.mk.injEq] at hv
  obtain ⟨rfl, rfl⟩ := hv
  exact OwnA.made_calls a0 A1 c1 l1 w (by omega) hc1 hr1

def nat_Add.f (l0 : List Int) (l1 : List Int) : Option (List Int) := if (okL l0 && okL l1) = true then some (addF l0 l1) else none
theorem nat_Add.calls (A0 : Option Addr) (c0 : Nat) (l0 : List Int) (A1 : Option Addr) (c1 : Nat) (l1 : List Int) (r : List Int) (w : World) (hr0 : Kd.C (Kd.int .u64) w A0 l0.length l0) (hc0 : l0.length ≤ c0) (hr1 : Kd.C (Kd.int .u64) w A1 l1.length l1) (hc1 : l1.length ≤ c1) (h : nat_Add.f l0 l1 = some r) :
    Calls Tryz.prog 107 #[.slice A0 l0.length c0, .slice A1 l1.length c1] w fun e w' => ∃ v0_ : Value, e = .returned (v0_) ∧ Kd.R (Kd.int .u64) 58 w' w.heap.size (fun _ => True) v0_ r ∧ Below w.heap.size w w' := by
  obtain ⟨hk, rfl⟩ := given h
  rw [Bool.and_eq_true] at hk
  obtain ⟨hl, hu⟩ := okL_iff.1 hk.1
  obtain ⟨hm, hv⟩ := okL_iff.1 hk.2
  exact OwnA.add_calls A0 A1 c0 c1 l0 l1 w hl hm hc0 hc1 hu hv hr0 hr1

def nat_Sub.f (l0 : List Int) (l1 : List Int) : Option (List Int) := if (okL l0 && okL l1) = true then some (subF l0 l1) else none
theorem nat_Sub.calls (A0 : Option Addr) (c0 : Nat) (l0 : List Int) (A1 : Option Addr) (c1 : Nat) (l1 : List Int) (r : List Int) (w : World) (hr0 : Kd.C (Kd.int .u64) w A0 l0.length l0) (hc0 : l0.length ≤ c0) (hr1 : Kd.C (Kd.int .u64) w A1 l1.length l1) (hc1 : l1.length ≤ c1) (h : nat_Sub.f l0 l1 = some r) :
    Calls Tryz.prog 117 #[.slice A0 l0.length c0, .slice A1 l1.length c1] w fun e w' => ∃ v0_ : Value, e = .returned (v0_) ∧ Kd.R (Kd.int .u64) 58 w' w.heap.size (fun _ => True) v0_ r ∧ Below w.heap.size w w' := by
  obtain ⟨hk, rfl⟩ := given h
  rw [Bool.and_eq_true] at hk
  obtain ⟨hl, hu⟩ := okL_iff.1 hk.1
  obtain ⟨hm, hv⟩ := okL_iff.1 hk.2
  exact OwnA.sub_calls A0 A1 c0 c1 l0 l1 w hl hm hc0 hc1 hu hv hr0 hr1

def nat_Mul.f (l0 : List Int) (l1 : List Int) : Option (List Int) := if (okL l0 && okL l1) = true then some (mulF l0 l1) else none
theorem nat_Mul.calls (A0 : Option Addr) (c0 : Nat) (l0 : List Int) (A1 : Option Addr) (c1 : Nat) (l1 : List Int) (r : List Int) (w : World) (hr0 : Kd.C (Kd.int .u64) w A0 l0.length l0) (hc0 : l0.length ≤ c0) (hr1 : Kd.C (Kd.int .u64) w A1 l1.length l1) (hc1 : l1.length ≤ c1) (h : nat_Mul.f l0 l1 = some r) :
    Calls Tryz.prog 118 #[.slice A0 l0.length c0, .slice A1 l1.length c1] w fun e w' => ∃ v0_ : Value, e = .returned (v0_) ∧ Kd.R (Kd.int .u64) 58 w' w.heap.size (fun _ => True) v0_ r ∧ Below w.heap.size w w' := by
  obtain ⟨hk, rfl⟩ := given h
  rw [Bool.and_eq_true] at hk
  obtain ⟨hl, hu⟩ := okL_iff.1 hk.1
  obtain ⟨hm, hv⟩ := okL_iff.1 hk.2
  exact OwnA.mul_calls A0 A1 c0 c1 l0 l1 w hl hm hc0 hc1 hu hv hr0 hr1

def nat_Cmp.f (l0 : List Int) (l1 : List Int) : Option (Int) := if (okL l0 && okL l1) = true then some (cmpF l0 l1) else none
theorem nat_Cmp.calls (A0 : Option Addr) (c0 : Nat) (l0 : List Int) (A1 : Option Addr) (c1 : Nat) (l1 : List Int) (r : Int) (w : World) (hr0 : Kd.C (Kd.int .u64) w A0 l0.length l0) (hc0 : l0.length ≤ c0) (hr1 : Kd.C (Kd.int .u64) w A1 l1.length l1) (hc1 : l1.length ≤ c1) (h : nat_Cmp.f l0 l1 = some r) :
    Calls Tryz.prog 106 #[.slice A0 l0.length c0, .slice A1 l1.length c1] w fun e w' => e = .returned (.int .i64 r) ∧ Below w.heap.size w w' := by
  obtain ⟨hk, rfl⟩ := given h
  rw [Bool.and_eq_true] at hk
  obtain ⟨hl, hu⟩ := okL_iff.1 hk.1
  obtain ⟨hm, hv⟩ := okL_iff.1 hk.2
  exact OwnA.cmp_calls A0 A1 c0 c1 l0 l1 w (by omega) (by omega) hc0 hc1 hr0 hr1

end Go.Proofs.YtmbdbkcifmkpbaaGreatDoor.PResid
