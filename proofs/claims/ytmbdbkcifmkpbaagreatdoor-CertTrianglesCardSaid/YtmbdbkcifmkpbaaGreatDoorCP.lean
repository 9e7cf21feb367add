/- Parts of the proof, joined: Given functions: their contracts, in abstract values. Given functions, sworn to in abstract values. New: a matrix of zeros, handed over. Rows that change places: a given function. Given functions: shifts down, bits, whether in seven parts; what is deferred does nothing. -/
import Derived.Test.YtmbdbkcifmkpbaaGreatDoorCDnB
import Derived.Test.YtmbdbkcifmkpbaaGreatDoorCOwnL
import Derived.Test.YtmbdbkcifmkpbaaGreatDoorCBw
import Derived.KernelRfl
section
set_option linter.unusedVariables false
set_option linter.unnecessarySimpa false
set_option linter.unusedSimpArgs false
namespace Go.Proofs.YtmbdbkcifmkpbaaGreatDoor.Den
open Go Go.RowKit Go.Proofs.YtmbdbkcifmkpbaaGreatDoorW.PrintWords Go.Proofs.YtmbdbkcifmkpbaaGreatDoorW.PrintLast Go.Proofs.YtmbdbkcifmkpbaaGreatDoorW.PrintMore
open Go.Proofs.YtmbdbkcifmkpbaaGreatDoor.OwnA (u64s Glob glob_below)

def asU : V → Option Int
  | .int .u64 n => some n
  | _ => none
def asUs : List V → Option (List Int)
  | [] => some []
  | v :: l => (asU v).bind fun x => (asUs l).map (x :: ·)
def limbs (l : List Int) : V := .lst (l.map (V.int .u64))
theorem asUs_map (l : List Int) : asUs (l.map (V.int .u64)) = some l := by
  induction l with
  | nil => rfl
  | cons x l ih => simp [asUs, asU, ih]
theorem asUs_eq {l : List V} {xs : List Int} (h : asUs l = some xs) : l = xs.map (V.int .u64) := by
  induction l generalizing xs with
  | nil => simp only [asUs, Option.some.injEq] at h; subst h; rfl
  | cons v l ih =>
    unfold asUs at h
    obtain ⟨x, hx, h⟩ := Option.bind_eq_some_iff.1 h
    obtain ⟨ys, hy, rfl⟩ := Option.map_eq_some_iff.1 h
    have hv : v = .int .u64 x := by
      unfold asU at hx
      split at hx
      · simp only [Option.some.injEq] at hx; rw [hx]
      · cases hx
    rw [hv, ih hy]
    rfl
/-- limbs, as the kit's words have them -/
theorem limbs_C {hot : Nat → Prop} {w : World} {xs : List Int} {u : Value} (h : relP hot w (limbs xs) [u]) : ∃ A c, u = .slice A xs.length c ∧ xs.length ≤ c ∧ Kd.C (Kd.int .u64) w A xs.length xs := by
  unfold limbs relP at h
  obtain ⟨A, c, e, h1, h2, h3⟩ := h
  simp only [List.cons.injEq, and_true, List.length_map] at e h1 h2
  refine ⟨A, c, e, h1, rfl, h2, fun hp => ?_⟩
  rcases h3 with h3 | ⟨b, o, sz, eA, hs, _, hr⟩
  · cases xs with
    | nil => simp at hp
    | cons _ _ => simp at h3
  · refine ⟨⟨b, o, none⟩, eA, fun j p hj => ?_⟩
    obtain ⟨us, g1, g2, g3⟩ := relRow_get _ 0 hr j (.int .u64 p) (by rw [List.getElem?_map, hj]; rfl)
    unfold relP at g2
    subst g2
    have hsz : sz = 1 := by simpa using g1.symm
    subst hsz
    refine ⟨[.int .u64 p], rfl, rfl, fun i u hu => ?_⟩
    have := g3 i u hu
    rw [Nat.zero_add] at this
    rw [Addr.add_mid, ← Nat.add_assoc]
    exact this
theorem C_limbs {hot : Nat → Prop} {w : World} {xs : List Int} {A : Option Addr} {c : Nat} (h : Kd.C (Kd.int .u64) w A xs.length xs) (hc : xs.length ≤ c) (hb : ∀ ad, A = some ad → 0 < xs.length → ¬ hot ad.block) : relP hot w (limbs xs) [.slice A xs.length c] := by
  unfold limbs relP
  refine ⟨A, c, by rw [List.length_map], by rw [List.length_map]; exact hc, by rw [List.length_map]; exact h.2.1, ?_⟩
  by_cases he : xs = []
  · left; rw [he]; rfl
  · right
    have hp : 0 < xs.length := List.length_pos_iff.2 he
    obtain ⟨ad, eA, hr⟩ := h.2.2 hp
    have hspot : ad.spot = none := by
      obtain ⟨p, hp0⟩ : ∃ p, xs[0]? = some p := ⟨xs[0], List.getElem?_eq_getElem hp⟩
      obtain ⟨c', h1, h2, h3⟩ := hr 0 p hp0
      have hc0 : c' = [.int .u64 p] := h2
      have := h3 0 (.int .u64 p) (by rw [hc0]; rfl)
      rw [Nat.zero_mul, Nat.add_zero] at this
      unfold Addr.add at this
      rw [if_pos rfl] at this
      unfold World.cell? at this
      split at this
      · split at this
        · cases this
        · rename_i hs; simpa using hs
      · cases this
    obtain ⟨b, o, sp⟩ := ad
    simp only at hspot
    subst hspot
    refine ⟨b, o, 1, eA, by omega, hb _ eA hp, ?_⟩
    have key : ∀ (l : List Int) (i : Nat), (∀ j p, l[j]? = some p → w.cell? ⟨b, o + (i + j), none⟩ = some (.int .u64 p)) → relRow hot w b o 1 i (l.map (V.int .u64)) := by
      intro l
      induction l with
      | nil => intro i _; unfold List.map relRow; trivial
      | cons x l ih =>
        intro i H
        rw [List.map_cons]
        unfold relRow
        refine ⟨⟨[.int .u64 x], rfl, by unfold relP; rfl, fun j u hj => ?_⟩, ih (i + 1) fun j p hj => ?_⟩
        · cases j with
          | zero =>
            simp only [List.getElem?_cons_zero, Option.some.injEq] at hj
            subst hj
            have := H 0 x rfl
            rw [Nat.mul_one, Nat.add_zero]
            exact this
          | succ j => simp at hj
        · have := H (j + 1) p (by simpa using hj)
          rw [show i + 1 + j = i + (j + 1) by omega]
          exact this
    refine key xs 0 fun j p hj => ?_
    obtain ⟨c', h1, h2, h3⟩ := hr j p hj
    have hc0 : c' = [.int .u64 p] := h2
    have := h3 0 (.int .u64 p) (by rw [hc0]; rfl)
    have hsz : (Kd.int IntKind.u64).sz = 1 := rfl
    rw [hsz, Addr.add_mid, Nat.mul_one, Nat.add_zero] at this
    rw [Nat.zero_add]
    exact this
/-- limbs of a row of the call's own -/
theorem R_limbs {F : Nat → Prop} {w : World} {base e : Nat} {ok : Nat → Prop} {v : Value} {xs : List Int} (h : Kd.R (Kd.int .u64) e w base ok v xs) (hF : ∀ b, F b → b < base) : Rel (ctx0 F) w (limbs xs) v := by
  obtain ⟨A, c, rfl⟩ := Kd.R_slice h
  obtain ⟨h1, h2, h3⟩ := Kd.R_reads' h
  show relP (ctx0 F).hot w (limbs xs) [_]
  refine C_limbs h3 h2 fun ad e hp hh => ?_
  rw [hot0] at hh
  have := Kd.R_base h ad.block (by rw [e]; rfl)
  have := hF _ hh
  omega
theorem limbs_arg {F : Nat → Prop} {w : World} {xs : List Int} {u : Value} (h : Rel (ctx0 F) w (limbs xs) u) : ∃ A c, u = .slice A xs.length c ∧ xs.length ≤ c ∧ Kd.C (Kd.int .u64) w A xs.length xs := limbs_C h
end Go.Proofs.YtmbdbkcifmkpbaaGreatDoor.Den
end
section
set_option linter.unusedVariables false
set_option linter.unnecessarySimpa false
set_option linter.unusedSimpArgs false
namespace Go.Proofs.YtmbdbkcifmkpbaaGreatDoor.Den
open Go Go.RowKit Go.Proofs.YtmbdbkcifmkpbaaGreatDoorW.PrintWords Go.Proofs.YtmbdbkcifmkpbaaGreatDoorW.PrintLast Go.Proofs.YtmbdbkcifmkpbaaGreatDoorW.PrintMore Go.Proofs.YtmbdbkcifmkpbaaGreatDoor.PResid
open Go.Proofs.YtmbdbkcifmkpbaaGreatDoor.OwnA (u64s Glob glob_below)
def p31 : List V → Option V
  | [.agg [.int .i64 x0, .int .i64 x1, .lst l2]] => (asUs l2).bind fun xs2 => (shape_Finite.f x0 x1 xs2).map fun r => .int .i64 r
  | _ => none
theorem sp31 {args : List V} {r : V} (h : p31 args = some r) : Sp Tryz.prog Glob 9 args r := by
  unfold p31 at h
  split at h
  · rename_i x0 x1 l2
    obtain ⟨xs2, hx2, h2⟩ := Option.bind_eq_some_iff.1 h
    have hl2 := asUs_eq hx2
    subst hl2
    obtain ⟨q, hq, rfl⟩ := Option.map_eq_some_iff.1 h2
    intro F w us hF hG hA
    rw [RelL] at hA
    obtain ⟨u0, us0, rfl, hu0, hA0⟩ := hA
    rw [Rel] at hu0
    obtain ⟨vs0, rfl, hv0⟩ := hu0
    rw [RelL] at hv0
    obtain ⟨c0_0, cs0_0, rfl, hc0_0, hr0_0⟩ := hv0
    rw [RelL] at hr0_0
    obtain ⟨c0_1, cs0_1, rfl, hc0_1, hr0_1⟩ := hr0_0
    rw [RelL] at hr0_1
    obtain ⟨c0_2, cs0_2, rfl, hc0_2, hr0_2⟩ := hr0_1
    rw [RelL] at hr0_2
    subst hr0_2
    have e0 := Rel_int hc0_0
    subst e0
    have e1 := Rel_int hc0_1
    subst e1
    obtain ⟨A2, k2, rfl, j2, C2⟩ := limbs_arg hc0_2
    rw [RelL] at hA0
    subst hA0
    refine (PResid.shape_Finite.calls x0 x1 _ _ xs2 q w C2 j2 hq).mono ?_
    rintro e w' ⟨rfl, hB⟩
    refine ⟨_, rfl, ?_, hB⟩
    exact Rel_mkint _ _
  · cases h
def p75 : List V → Option V
  | [.agg [.bool x0, .lst l1]] => (asUs l1).bind fun xs1 => (whole_Sign.f x0 xs1).map fun r => .int .i64 r
  | _ => none
theorem sp75 {args : List V} {r : V} (h : p75 args = some r) : Sp Tryz.prog Glob 93 args r := by
  unfold p75 at h
  split at h
  · rename_i x0 l1
    obtain ⟨xs1, hx1, h1⟩ := Option.bind_eq_some_iff.1 h
    have hl1 := asUs_eq hx1
    subst hl1
    obtain ⟨q, hq, rfl⟩ := Option.map_eq_some_iff.1 h1
    intro F w us hF hG hA
    rw [RelL] at hA
    obtain ⟨u0, us0, rfl, hu0, hA0⟩ := hA
    rw [Rel] at hu0
    obtain ⟨vs0, rfl, hv0⟩ := hu0
    rw [RelL] at hv0
    obtain ⟨c0_0, cs0_0, rfl, hc0_0, hr0_0⟩ := hv0
    rw [RelL] at hr0_0
    obtain ⟨c0_1, cs0_1, rfl, hc0_1, hr0_1⟩ := hr0_0
    rw [RelL] at hr0_1
    subst hr0_1
    have e0 := Rel_bool hc0_0
    subst e0
    obtain ⟨A1, k1, rfl, j1, C1⟩ := limbs_arg hc0_1
    rw [RelL] at hA0
    subst hA0
    refine (PResid.whole_Sign.calls x0 _ _ xs1 q w C1 j1 hq).mono ?_
    rintro e w' ⟨rfl, hB⟩
    refine ⟨_, rfl, ?_, hB⟩
    exact Rel_mkint _ _
  · cases h
def p84 : List V → Option V
  | [.lst l0, .int .i64 x1] => (asUs l0).bind fun xs0 => (natdiv_shl.f xs0 x1).map fun r => limbs r
  | _ => none
theorem sp84 {args : List V} {r : V} (h : p84 args = some r) : Sp Tryz.prog Glob 111 args r := by
  unfold p84 at h
  split at h
  · rename_i l0 x1
    obtain ⟨xs0, hx0, h0⟩ := Option.bind_eq_some_iff.1 h
    have hl0 := asUs_eq hx0
    subst hl0
    obtain ⟨q, hq, rfl⟩ := Option.map_eq_some_iff.1 h0
    intro F w us hF hG hA
    rw [RelL] at hA
    obtain ⟨u0, us0, rfl, hu0, hA0⟩ := hA
    obtain ⟨A0, k0, rfl, j0, C0⟩ := limbs_arg hu0
    rw [RelL] at hA0
    obtain ⟨u1, us1, rfl, hu1, hA1⟩ := hA0
    have e1 := Rel_int hu1
    subst e1
    rw [RelL] at hA1
    subst hA1
    refine (PResid.natdiv_shl.calls _ _ xs0 x1 q w C0 j0 hq).mono ?_
    rintro e w' ⟨v0, rfl, hR0, hB⟩
    refine ⟨_, rfl, ?_, hB⟩
    exact R_limbs hR0 hF
  · cases h
def p72 : List V → Option V
  | [.agg [.bool x0, .lst l1], .int .i64 x2] => (asUs l1).bind fun xs1 => (dyadic_told.f x0 xs1 x2).map fun r => .tup [.agg [.bool (r.1), limbs (r.2.1), .int .i64 (r.2.2.1)], .int .i64 (r.2.2.2)]
  | _ => none
theorem sp72 {args : List V} {r : V} (h : p72 args = some r) : Sp Tryz.prog Glob 90 args r := by
  unfold p72 at h
  split at h
  · rename_i x0 l1 x2
    obtain ⟨xs1, hx1, h1⟩ := Option.bind_eq_some_iff.1 h
    have hl1 := asUs_eq hx1
    subst hl1
    obtain ⟨q, hq, rfl⟩ := Option.map_eq_some_iff.1 h1
    intro F w us hF hG hA
    rw [RelL] at hA
    obtain ⟨u0, us0, rfl, hu0, hA0⟩ := hA
    rw [Rel] at hu0
    obtain ⟨vs0, rfl, hv0⟩ := hu0
    rw [RelL] at hv0
    obtain ⟨c0_0, cs0_0, rfl, hc0_0, hr0_0⟩ := hv0
    rw [RelL] at hr0_0
    obtain ⟨c0_1, cs0_1, rfl, hc0_1, hr0_1⟩ := hr0_0
    rw [RelL] at hr0_1
    subst hr0_1
    have e0 := Rel_bool hc0_0
    subst e0
    obtain ⟨A1, k1, rfl, j1, C1⟩ := limbs_arg hc0_1
    rw [RelL] at hA0
    obtain ⟨u1, us1, rfl, hu1, hA1⟩ := hA0
    have e2 := Rel_int hu1
    subst e2
    rw [RelL] at hA1
    subst hA1
    refine (PResid.dyadic_told.calls x0 _ _ xs1 x2 _ _ _ _ w C1 j1 hq hG).mono ?_
    rintro e w' ⟨v1, rfl, hR1, hB⟩
    refine ⟨_, rfl, ?_, hB⟩
    rw [Rel]
    exact ⟨_, rfl, (by rw [RelL]; exact ⟨_, _, rfl, (by rw [Rel]; exact ⟨_, rfl, (by rw [RelL]; exact ⟨_, _, rfl, Rel_mkbool _, (by rw [RelL]; exact ⟨_, _, rfl, R_limbs hR1 hF, (by rw [RelL]; exact ⟨_, _, rfl, Rel_mkint _ _, (by rw [RelL])⟩)⟩)⟩)⟩), (by rw [RelL]; exact ⟨_, _, rfl, Rel_mkint _ _, (by rw [RelL])⟩)⟩)⟩
  · cases h
def p87 : List V → Option V
  | [.bool x0, .lst l1] => (asUs l1).bind fun xs1 => (whole_made.f x0 xs1).map fun r => .agg [.bool (r.1), limbs (r.2)]
  | _ => none
theorem sp87 {args : List V} {r : V} (h : p87 args = some r) : Sp Tryz.prog Glob 115 args r := by
  unfold p87 at h
  split at h
  · rename_i x0 l1
    obtain ⟨xs1, hx1, h1⟩ := Option.bind_eq_some_iff.1 h
    have hl1 := asUs_eq hx1
    subst hl1
    obtain ⟨q, hq, rfl⟩ := Option.map_eq_some_iff.1 h1
    intro F w us hF hG hA
    rw [RelL] at hA
    obtain ⟨u0, us0, rfl, hu0, hA0⟩ := hA
    have e0 := Rel_bool hu0
    subst e0
    rw [RelL] at hA0
    obtain ⟨u1, us1, rfl, hu1, hA1⟩ := hA0
    obtain ⟨A1, k1, rfl, j1, C1⟩ := limbs_arg hu1
    rw [RelL] at hA1
    subst hA1
    refine (PResid.whole_made.calls x0 _ _ xs1 _ _ w C1 j1 hq).mono ?_
    rintro e w' ⟨v1, rfl, hR1, hB⟩
    refine ⟨_, rfl, ?_, hB⟩
    exact (by rw [Rel]; exact ⟨_, rfl, (by rw [RelL]; exact ⟨_, _, rfl, Rel_mkbool _, (by rw [RelL]; exact ⟨_, _, rfl, R_limbs hR1 hF, (by rw [RelL])⟩)⟩)⟩)
  · cases h
def p88 : List V → Option V
  | [.lst l0, .lst l1] => (asUs l0).bind fun xs0 => (asUs l1).bind fun xs1 => (nat_Add.f xs0 xs1).map fun r => limbs r
  | _ => none
theorem sp88 {args : List V} {r : V} (h : p88 args = some r) : Sp Tryz.prog Glob 107 args r := by
  unfold p88 at h
  split at h
  · rename_i l0 l1
    obtain ⟨xs0, hx0, h0⟩ := Option.bind_eq_some_iff.1 h
    have hl0 := asUs_eq hx0
    subst hl0
    obtain ⟨xs1, hx1, h1⟩ := Option.bind_eq_some_iff.1 h0
    have hl1 := asUs_eq hx1
    subst hl1
    obtain ⟨q, hq, rfl⟩ := Option.map_eq_some_iff.1 h1
    intro F w us hF hG hA
    rw [RelL] at hA
    obtain ⟨u0, us0, rfl, hu0, hA0⟩ := hA
    obtain ⟨A0, k0, rfl, j0, C0⟩ := limbs_arg hu0
    rw [RelL] at hA0
    obtain ⟨u1, us1, rfl, hu1, hA1⟩ := hA0
    obtain ⟨A1, k1, rfl, j1, C1⟩ := limbs_arg hu1
    rw [RelL] at hA1
    subst hA1
    refine (PResid.nat_Add.calls _ _ xs0 _ _ xs1 q w C0 j0 C1 j1 hq).mono ?_
    rintro e w' ⟨v0, rfl, hR0, hB⟩
    refine ⟨_, rfl, ?_, hB⟩
    exact R_limbs hR0 hF
  · cases h
def p91 : List V → Option V
  | [.lst l0, .lst l1] => (asUs l0).bind fun xs0 => (asUs l1).bind fun xs1 => (nat_Sub.f xs0 xs1).map fun r => limbs r
  | _ => none
theorem sp91 {args : List V} {r : V} (h : p91 args = some r) : Sp Tryz.prog Glob 117 args r := by
  unfold p91 at h
  split at h
  · rename_i l0 l1
    obtain ⟨xs0, hx0, h0⟩ := Option.bind_eq_some_iff.1 h
    have hl0 := asUs_eq hx0
    subst hl0
    obtain ⟨xs1, hx1, h1⟩ := Option.bind_eq_some_iff.1 h0
    have hl1 := asUs_eq hx1
    subst hl1
    obtain ⟨q, hq, rfl⟩ := Option.map_eq_some_iff.1 h1
    intro F w us hF hG hA
    rw [RelL] at hA
    obtain ⟨u0, us0, rfl, hu0, hA0⟩ := hA
    obtain ⟨A0, k0, rfl, j0, C0⟩ := limbs_arg hu0
    rw [RelL] at hA0
    obtain ⟨u1, us1, rfl, hu1, hA1⟩ := hA0
    obtain ⟨A1, k1, rfl, j1, C1⟩ := limbs_arg hu1
    rw [RelL] at hA1
    subst hA1
    refine (PResid.nat_Sub.calls _ _ xs0 _ _ xs1 q w C0 j0 C1 j1 hq).mono ?_
    rintro e w' ⟨v0, rfl, hR0, hB⟩
    refine ⟨_, rfl, ?_, hB⟩
    exact R_limbs hR0 hF
  · cases h
def p92 : List V → Option V
  | [.lst l0, .lst l1] => (asUs l0).bind fun xs0 => (asUs l1).bind fun xs1 => (nat_Mul.f xs0 xs1).map fun r => limbs r
  | _ => none
theorem sp92 {args : List V} {r : V} (h : p92 args = some r) : Sp Tryz.prog Glob 118 args r := by
  unfold p92 at h
  split at h
  · rename_i l0 l1
    obtain ⟨xs0, hx0, h0⟩ := Option.bind_eq_some_iff.1 h
    have hl0 := asUs_eq hx0
    subst hl0
    obtain ⟨xs1, hx1, h1⟩ := Option.bind_eq_some_iff.1 h0
    have hl1 := asUs_eq hx1
    subst hl1
    obtain ⟨q, hq, rfl⟩ := Option.map_eq_some_iff.1 h1
    intro F w us hF hG hA
    rw [RelL] at hA
    obtain ⟨u0, us0, rfl, hu0, hA0⟩ := hA
    obtain ⟨A0, k0, rfl, j0, C0⟩ := limbs_arg hu0
    rw [RelL] at hA0
    obtain ⟨u1, us1, rfl, hu1, hA1⟩ := hA0
    obtain ⟨A1, k1, rfl, j1, C1⟩ := limbs_arg hu1
    rw [RelL] at hA1
    subst hA1
    refine (PResid.nat_Mul.calls _ _ xs0 _ _ xs1 q w C0 j0 C1 j1 hq).mono ?_
    rintro e w' ⟨v0, rfl, hR0, hB⟩
    refine ⟨_, rfl, ?_, hB⟩
    exact R_limbs hR0 hF
  · cases h
def p90 : List V → Option V
  | [.lst l0, .lst l1] => (asUs l0).bind fun xs0 => (asUs l1).bind fun xs1 => (nat_Cmp.f xs0 xs1).map fun r => .int .i64 r
  | _ => none
theorem sp90 {args : List V} {r : V} (h : p90 args = some r) : Sp Tryz.prog Glob 106 args r := by
  unfold p90 at h
  split at h
  · rename_i l0 l1
    obtain ⟨xs0, hx0, h0⟩ := Option.bind_eq_some_iff.1 h
    have hl0 := asUs_eq hx0
    subst hl0
    obtain ⟨xs1, hx1, h1⟩ := Option.bind_eq_some_iff.1 h0
    have hl1 := asUs_eq hx1
    subst hl1
    obtain ⟨q, hq, rfl⟩ := Option.map_eq_some_iff.1 h1
    intro F w us hF hG hA
    rw [RelL] at hA
    obtain ⟨u0, us0, rfl, hu0, hA0⟩ := hA
    obtain ⟨A0, k0, rfl, j0, C0⟩ := limbs_arg hu0
    rw [RelL] at hA0
    obtain ⟨u1, us1, rfl, hu1, hA1⟩ := hA0
    obtain ⟨A1, k1, rfl, j1, C1⟩ := limbs_arg hu1
    rw [RelL] at hA1
    subst hA1
    refine (PResid.nat_Cmp.calls _ _ xs0 _ _ xs1 q w C0 j0 C1 j1 hq).mono ?_
    rintro e w' ⟨rfl, hB⟩
    refine ⟨_, rfl, ?_, hB⟩
    exact Rel_mkint _ _
  · cases h
end Go.Proofs.YtmbdbkcifmkpbaaGreatDoor.Den
end
section
set_option linter.unusedVariables false
set_option linter.unnecessarySimpa false
set_option linter.unusedSimpArgs false
namespace Go.Proofs.YtmbdbkcifmkpbaaGreatDoor.Den
open Go Go.RowKit Go.Proofs.YtmbdbkcifmkpbaaGreatDoorW.PrintWords Go.Proofs.YtmbdbkcifmkpbaaGreatDoorW.PrintLast Go.Proofs.YtmbdbkcifmkpbaaGreatDoorW.PrintMore
open Go.Proofs.YtmbdbkcifmkpbaaGreatDoor.OwnA (u64s Glob glob_below sideB sideB_iff new_calls)
theorem RowL_u64 {hot : Nat → Prop} {w : World} : ∀ xs : List Int, RowL hot w 1 (xs.map (V.int .u64)) (xs.map (Value.int .u64))
  | [] => rfl
  | x :: xs => ⟨[.int .u64 x], _, rfl, rfl, by unfold relP; rfl, RowL_u64 xs⟩
/-- limbs of one's own, handed over -/
theorem own_R {e : Nat} {w : World} {base : Nat} {ok : Nat → Prop} {v : Value} {xs : List Int} (h : Kd.R (Kd.int .u64) e w base ok v xs) : w.ownsRow base e 1 v xs.length (xs.map (Value.int .u64)) := Kd.own_of_R h
def p62 : List V → Option V
  | [.int .i64 r, .int .i64 c] => if sideB r = true ∧ sideB c = true then some (.tup [.tup [.agg [.int .i64 r, .int .i64 c, .own 0 (r * c).toNat], .int .i64 0], .arr true 1 58 (List.replicate (r * c).toNat (.int .u64 0))]) else none
  | _ => none
theorem sp62 {args : List V} {r : V} (h : p62 args = some r) : SpF Tryz.prog Glob 29 args r := by
  unfold p62 at h
  split at h
  · rename_i x c
    split at h
    · rename_i hs
      obtain ⟨h1, h2⟩ := hs
      simp only [Option.some.injEq] at h
      subst h
      refine ⟨_, _, _, _, rfl, ?_⟩
      intro F w us hF hG hA
      rw [RelL] at hA
      obtain ⟨u0, us0, rfl, hu0, hA0⟩ := hA
      rw [RelL] at hA0
      obtain ⟨u1, us1, rfl, hu1, hA1⟩ := hA0
      rw [RelL] at hA1
      subst hA1
      have e0 := Rel_int hu0
      have e1 := Rel_int hu1
      subst e0 e1
      have r1 := sideB_iff.1 h1
      have c1 := sideB_iff.1 h2
      have m0 : 0 ≤ x * c := Int.mul_nonneg (by omega) (by omega)
      have m1 : x * c ≤ 4096 := by
        have := Int.mul_le_mul r1.2 c1.2 (by omega) (by omega)
        omega
      obtain ⟨m, hm⟩ := Int.eq_ofNat_of_zero_le m0
      rw [hm, Int.toNat_natCast]
      refine (new_calls x c m w h1 h2 hm).mono ?_
      rintro e w' ⟨v, rfl, hR, hB⟩
      have ho := own_R hR
      rw [List.length_replicate] at ho
      have hl : (List.replicate m (V.int .u64 0)).length = m := List.length_replicate
      refine ⟨_, v, _, rfl, hB, by rw [hl]; unfold big; omega, by decide, by rw [hl]; exact ho, ?_, ?_⟩
      · have := RowL_u64 (hot := (arr1 F ⟨v, (List.replicate m (V.int .u64 0)).length, 1, 58, true⟩).hot) (w := w') (List.replicate m 0)
        rw [List.map_replicate] at this
        exact this
      · rw [hl]
        rw [Rel]
        refine ⟨_, rfl, ?_⟩
        rw [RelL]
        refine ⟨_, _, rfl, ?_, ?_⟩
        · rw [Rel]
          refine ⟨_, rfl, ?_⟩
          rw [RelL]
          refine ⟨_, _, rfl, Rel_mkint _ _, ?_⟩
          rw [RelL]
          refine ⟨_, _, rfl, Rel_mkint _ _, ?_⟩
          rw [RelL]
          refine ⟨_, _, rfl, ?_, by rw [RelL]⟩
          rw [Rel]
          refine ⟨⟨v, m, 1, 58, true⟩, by simp [arr1], Nat.le_refl _, ?_, fun _ => rfl⟩
          obtain ⟨A, cc, hv⟩ := Kd.R_slice hR
          rw [hv]; rfl
        · rw [RelL]
          exact ⟨_, _, rfl, Rel_mkint _ _, by rw [RelL]⟩
    · cases h
  · cases h
end Go.Proofs.YtmbdbkcifmkpbaaGreatDoor.Den
end
section
set_option linter.unusedVariables false
set_option linter.unnecessarySimpa false
set_option linter.unusedSimpArgs false
namespace Go.Proofs.YtmbdbkcifmkpbaaGreatDoor.Den
open Go Go.RowKit Go.Proofs.YtmbdbkcifmkpbaaGreatDoorW.PrintWords Go.Proofs.YtmbdbkcifmkpbaaGreatDoorW.PrintLast Go.Proofs.YtmbdbkcifmkpbaaGreatDoorW.PrintMore
open Go.Proofs.YtmbdbkcifmkpbaaGreatDoor.OwnA (u64s Glob glob_below sideB sideB_iff fits readyF apN apN_len apply_bad apply_good)
def asI : V → Option Int
  | .int .i64 n => some n
  | _ => none
def asIs : List V → Option (List Int)
  | [] => some []
  | v :: l => (asI v).bind fun x => (asIs l).map (x :: ·)
theorem asIs_map (l : List Int) : asIs (l.map (V.int .i64)) = some l := by
  induction l with
  | nil => rfl
  | cons x l ih => simp [asIs, asI, ih]
theorem asIs_eq {l : List V} {xs : List Int} (h : asIs l = some xs) : l = xs.map (V.int .i64) := by
  induction l generalizing xs with
  | nil => simp only [asIs, Option.some.injEq] at h; subst h; rfl
  | cons v l ih =>
    unfold asIs at h
    obtain ⟨x, hx, h⟩ := Option.bind_eq_some_iff.1 h
    obtain ⟨ys, hy, rfl⟩ := Option.map_eq_some_iff.1 h
    have hv : v = .int .i64 x := by
      unfold asI at hx
      split at hx
      · simp only [Option.some.injEq] at hx; rw [hx]
      · cases hx
    rw [hv, ih hy]
    rfl
/-- whole numbers, as the kit's words have them -/
theorem ints_C {hot : Nat → Prop} {w : World} {xs : List Int} {u : Value} (h : relP hot w (.lst (xs.map (V.int .i64))) [u]) : ∃ A c, u = .slice A xs.length c ∧ xs.length ≤ c ∧ Kd.C (Kd.int .i64) w A xs.length xs := by
  unfold relP at h
  obtain ⟨A, c, e, h1, h2, h3⟩ := h
  simp only [List.cons.injEq, and_true, List.length_map] at e h1 h2
  refine ⟨A, c, e, h1, rfl, h2, fun hp => ?_⟩
  rcases h3 with h3 | ⟨b, o, sz, eA, hs, _, hr⟩
  · cases xs with
    | nil => simp at hp
    | cons _ _ => simp at h3
  · refine ⟨⟨b, o, none⟩, eA, fun j p hj => ?_⟩
    obtain ⟨us, g1, g2, g3⟩ := relRow_get _ 0 hr j (.int .i64 p) (by rw [List.getElem?_map, hj]; rfl)
    unfold relP at g2
    subst g2
    have hsz : sz = 1 := by simpa using g1.symm
    subst hsz
    refine ⟨[.int .i64 p], rfl, rfl, fun i u hu => ?_⟩
    have := g3 i u hu
    rw [Nat.zero_add] at this
    rw [Addr.add_mid, ← Nat.add_assoc]
    exact this

def p24 : List V → Option V
  | [.agg [.int .i64 r, .int .i64 c, .lst l], .lst s] => (asUs l).bind fun xs => (asIs s).bind fun ss =>
      (if readyF r c xs.length ss = 0 then some (.tup [.agg [.int .i64 r, .int .i64 c, limbs (apN c.toNat xs ss ss.length)], .int .i64 0])
      else some (.tup [.agg [.int .i64 0, .int .i64 0, .lst []], .int .i64 (readyF r c xs.length ss)]))
  | _ => none
theorem ready_fits {r c : Int} {n : Nat} {s : List Int} (h : readyF r c n s = 0) : fits r c n = true := by
  cases hf : fits r c n with
  | true => rfl
  | false => unfold readyF at h; rw [hf] at h; simp at h
theorem sp24 {args : List V} {r : V} (h : p24 args = some r) : Sp Tryz.prog Glob 45 args r := by
  unfold p24 at h
  split at h
  · rename_i x c l s
    obtain ⟨xs, hx, h1⟩ := Option.bind_eq_some_iff.1 h
    obtain ⟨ss, hs, h2⟩ := Option.bind_eq_some_iff.1 h1
    clear h h1
    have h := h2
    clear h2
    have hl := asUs_eq hx
    have hsl := asIs_eq hs
    subst hl hsl
    intro F w us hF hG hA
    rw [RelL] at hA
    obtain ⟨u0, us0, rfl, hu0, hA0⟩ := hA
    rw [Rel] at hu0
    obtain ⟨vs0, rfl, hv0⟩ := hu0
    rw [RelL] at hv0
    obtain ⟨c0, cs0, rfl, hc0, hr0⟩ := hv0
    rw [RelL] at hr0
    obtain ⟨c1, cs1, rfl, hc1, hr1⟩ := hr0
    rw [RelL] at hr1
    obtain ⟨c2, cs2, rfl, hc2, hr2⟩ := hr1
    rw [RelL] at hr2
    subst hr2
    have e0 := Rel_int hc0
    have e1 := Rel_int hc1
    subst e0 e1
    obtain ⟨A2, k2, rfl, j2, C2⟩ := limbs_arg hc2
    rw [RelL] at hA0
    obtain ⟨u1, us1, rfl, hu1, hA1⟩ := hA0
    rw [RelL] at hA1
    subst hA1
    obtain ⟨A3, k3, rfl, j3, C3⟩ := ints_C (show relP (ctx0 F).hot w (.lst (ss.map (V.int .i64))) [u1] from hu1)
    split at h
    · rename_i hz
      simp only [Option.some.injEq] at h
      subst h
      have hf := ready_fits hz
      unfold fits at hf
      rw [Bool.and_eq_true, Bool.and_eq_true, sideB_iff, sideB_iff] at hf
      obtain ⟨⟨p0, p1⟩, ⟨q0, q1⟩, _⟩ := hf
      obtain ⟨x', rfl⟩ := Int.eq_ofNat_of_zero_le (show 0 ≤ x by omega)
      obtain ⟨c', rfl⟩ := Int.eq_ofNat_of_zero_le (show 0 ≤ c by omega)
      rw [Int.toNat_natCast]
      refine (apply_good x' c' xs.length A2 k2 A3 k3 xs ss w rfl j2 j3 C2 C3 hz).mono ?_
      rintro e w' ⟨v, rfl, hR, hB⟩
      refine ⟨_, rfl, ?_, hB⟩
      rw [Rel]
      exact ⟨_, rfl, (by rw [RelL]; exact ⟨_, _, rfl, (by rw [Rel]; exact ⟨_, rfl, (by rw [RelL]; exact ⟨_, _, rfl, Rel_mkint _ _, (by rw [RelL]; exact ⟨_, _, rfl, Rel_mkint _ _, (by rw [RelL]; exact ⟨_, _, rfl, R_limbs hR hF, (by rw [RelL])⟩)⟩)⟩)⟩), (by rw [RelL]; exact ⟨_, _, rfl, Rel_mkint _ _, (by rw [RelL])⟩)⟩)⟩
    · rename_i hz
      simp only [Option.some.injEq] at h
      subst h
      refine (apply_bad x c A2 xs.length k2 A3 k3 ss w j3 C3 hz).mono ?_
      rintro e w' ⟨rfl, hB⟩
      refine ⟨_, rfl, ?_, hB⟩
      have hn : Rel (ctx0 F) w' (.lst []) (.slice none 0 0) := by
        have := nm_Rel (C := ctx0 F) (w := w') .nil0 (.slice none 0 0) (by unfold Rel; rfl)
        unfold nm at this
        exact this
      rw [Rel]
      exact ⟨_, rfl, (by rw [RelL]; exact ⟨_, _, rfl, (by rw [Rel]; exact ⟨_, rfl, (by rw [RelL]; exact ⟨_, _, rfl, Rel_mkint _ _, (by rw [RelL]; exact ⟨_, _, rfl, Rel_mkint _ _, (by rw [RelL]; exact ⟨_, _, rfl, hn, (by rw [RelL])⟩)⟩)⟩)⟩), (by rw [RelL]; exact ⟨_, _, rfl, Rel_mkint _ _, (by rw [RelL])⟩)⟩)⟩
  · cases h
end Go.Proofs.YtmbdbkcifmkpbaaGreatDoor.Den
end
section
set_option linter.unusedVariables false
set_option linter.unnecessarySimpa false
set_option linter.unusedSimpArgs false
namespace Go.Proofs.YtmbdbkcifmkpbaaGreatDoor.Den
open Go Go.RowKit Go.Proofs.YtmbdbkcifmkpbaaGreatDoorW.PrintWords Go.Proofs.YtmbdbkcifmkpbaaGreatDoorW.PrintLast Go.Proofs.YtmbdbkcifmkpbaaGreatDoorW.PrintMore
open Go.Proofs.YtmbdbkcifmkpbaaGreatDoor.PResid (okL okL_iff given)
open Go.Proofs.YtmbdbkcifmkpbaaGreatDoor.OwnA (u64s Glob glob_below bitsF bitsV min3 fast_calls catch64 shr_calls)
def p121 : List V → Option V
  | [.lst l0, .int .i64 x1] => (asUs l0).bind fun xs0 => if (okL xs0 && (decide (0 ≤ x1) && decide (x1 ≤ 65536))) = true then some (limbs (OwnA.shrF xs0 x1)) else none
  | _ => none
theorem sp121 {args : List V} {r : V} (h : p121 args = some r) : Sp Tryz.prog Glob 121 args r := by
  unfold p121 at h
  split at h
  · rename_i l0 x1
    obtain ⟨xs0, hx0, h0⟩ := Option.bind_eq_some_iff.1 h
    have hl0 := asUs_eq hx0
    subst hl0
    obtain ⟨hk, rfl⟩ := given h0
    simp only [Bool.and_eq_true, decide_eq_true_iff] at hk
    obtain ⟨q1, q2, q3⟩ := hk
    obtain ⟨o1, o2⟩ := okL_iff.1 q1
    intro F w us hF hG hA
    rw [RelL] at hA
    obtain ⟨u0, us0, rfl, hu0, hA0⟩ := hA
    obtain ⟨A0, k0, rfl, j0, C0⟩ := limbs_arg hu0
    rw [RelL] at hA0
    obtain ⟨u1, us1, rfl, hu1, hA1⟩ := hA0
    have e1 := Rel_int hu1
    subst e1
    rw [RelL] at hA1
    subst hA1
    refine (shr_calls A0 k0 xs0 x1 w o1 j0 q2 q3 o2 C0).mono ?_
    rintro e w' ⟨v0, rfl, hR0, hB⟩
    refine ⟨_, rfl, ?_, hB⟩
    exact R_limbs hR0 hF
  · cases h
def p104 : List V → Option V
  | [.lst l0] => (asUs l0).bind fun xs0 => if okL xs0 = true then some (.int .i64 (bitsF xs0)) else none
  | _ => none
theorem sp104 {args : List V} {r : V} (h : p104 args = some r) : Sp Tryz.prog Glob 104 args r := by
  unfold p104 at h
  split at h
  · rename_i l0
    obtain ⟨xs0, hx0, h0⟩ := Option.bind_eq_some_iff.1 h
    have hl0 := asUs_eq hx0
    subst hl0
    obtain ⟨hk, rfl⟩ := given h0
    obtain ⟨o1, o2⟩ := okL_iff.1 hk
    intro F w us hF hG hA
    rw [RelL] at hA
    obtain ⟨u0, us0, rfl, hu0, hA0⟩ := hA
    obtain ⟨A0, k0, rfl, j0, C0⟩ := limbs_arg hu0
    rw [RelL] at hA0
    subst hA0
    refine (bitsV A0 k0 xs0 w (by omega) j0 o2 C0).mono ?_
    rintro e w' ⟨rfl, rfl⟩
    exact ⟨_, rfl, Rel_mkint _ _, Below.refl _ _⟩
  · cases h
def pFast : List V → Option V
  | [.int .i64 m, .int .i64 k, .int .i64 n, .int .i64 c] => some (.bool (decide (min3 m k n > c)))
  | _ => none
theorem spFast {args : List V} {r : V} (h : pFast args = some r) : Sp Tryz.prog Glob 72 args r := by
  unfold pFast at h
  split at h
  · rename_i m k n c
    simp only [Option.some.injEq] at h
    subst h
    intro F w us hF hG hA
    rw [RelL] at hA
    obtain ⟨u0, us0, rfl, hu0, hA⟩ := hA
    rw [RelL] at hA
    obtain ⟨u1, us1, rfl, hu1, hA⟩ := hA
    rw [RelL] at hA
    obtain ⟨u2, us2, rfl, hu2, hA⟩ := hA
    rw [RelL] at hA
    obtain ⟨u3, us3, rfl, hu3, hA⟩ := hA
    rw [RelL] at hA
    subst hA
    have e0 := Rel_int hu0
    have e1 := Rel_int hu1
    have e2 := Rel_int hu2
    have e3 := Rel_int hu3
    subst e0 e1 e2 e3
    refine (fast_calls m k n c w).mono ?_
    rintro e w' ⟨rfl, hB⟩
    exact ⟨_, rfl, Rel_mkbool _, hB⟩
  · cases h
theorem noop64 (cap : Array Value) (h : cap.size = 2) : Noop Tryz.prog ⟨.fn (.func NF) cap, #[]⟩ := by
  obtain ⟨p, q, rfl⟩ : ∃ p q, cap = #[p, q] := by
    obtain ⟨l⟩ := cap
    match l, h with
    | [p, q], _ => exact ⟨p, q, rfl⟩
  exact ⟨_, _, 64, #[p, q], rfl, fun w => ⟨by kernel_rfl, catch64 p q w⟩⟩
end Go.Proofs.YtmbdbkcifmkpbaaGreatDoor.Den
end
