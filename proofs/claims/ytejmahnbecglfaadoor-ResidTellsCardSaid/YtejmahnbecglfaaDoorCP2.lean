/- Given functions, sworn to in abstract values. -/
import Derived.Test.YtejmahnbecglfaaDoorCP1

set_option linter.unusedVariables false
set_option linter.unnecessarySimpa false
set_option linter.unusedSimpArgs false
namespace Go.Proofs.YtejmahnbecglfaaDoor.Den
open Go Go.RowKit Go.Proofs.YtejmahnbecglfaaDoorW.PrintWords Go.Proofs.YtejmahnbecglfaaDoorW.PrintLast Go.Proofs.YtejmahnbecglfaaDoorW.PrintMore Go.Proofs.YtejmahnbecglfaaDoor.PResid
open Go.Proofs.YtejmahnbecglfaaDoor.OwnA (u64s Glob glob_below)
def p31 : List V → Option V
  | [.agg [.int .i64 x0, .int .i64 x1, .lst l2]] => (asUs l2).bind fun xs2 => (shape_Finite.f x0 x1 xs2).map fun r => .int .i64 r
  | _ => none
theorem sp31 {args : List V} {r : V} (h : p31 args = some r) : Sp Tryd.prog Glob 31 args r := by
  unfold p31 at h
  split at h
  · rename_i x0 x1 l2
    obtain ⟨xs2, hx2, h2⟩ := Option.bind_eq_some_iff.1 h
    have hl2 := asUs_eq hx2
    subst hl2
    obtain ⟨q, hq, rfl⟩ := Option.map_eq_some_iff.1 h2
    intro F w us hF hG hA
    rw [RelL] at hA
    obtain ⟨u0, us0, rfl, hu0, hA0⟩ := hA
    rw [Rel] at hu0
    obtain ⟨vs0, rfl, hv0⟩ := hu0
    rw [RelL] at hv0
    obtain ⟨c0_0, cs0_0, rfl, hc0_0, hr0_0⟩ := hv0
    rw [RelL] at hr0_0
    obtain ⟨c0_1, cs0_1, rfl, hc0_1, hr0_1⟩ := hr0_0
    rw [RelL] at hr0_1
    obtain ⟨c0_2, cs0_2, rfl, hc0_2, hr0_2⟩ := hr0_1
    rw [RelL] at hr0_2
    subst hr0_2
    have e0 := Rel_int hc0_0
    subst e0
    have e1 := Rel_int hc0_1
    subst e1
    obtain ⟨A2, k2, rfl, j2, C2⟩ := limbs_arg hc0_2
    rw [RelL] at hA0
    subst hA0
    refine (PResid.shape_Finite.calls x0 x1 _ _ xs2 q w C2 j2 hq).mono ?_
    rintro e w' ⟨rfl, hB⟩
    refine ⟨_, rfl, ?_, hB⟩
    exact Rel_mkint _ _
  · cases h
def p75 : List V → Option V
  | [.agg [.bool x0, .lst l1]] => (asUs l1).bind fun xs1 => (whole_Sign.f x0 xs1).map fun r => .int .i64 r
  | _ => none
theorem sp75 {args : List V} {r : V} (h : p75 args = some r) : Sp Tryd.prog Glob 75 args r := by
  unfold p75 at h
  split at h
  · rename_i x0 l1
    obtain ⟨xs1, hx1, h1⟩ := Option.bind_eq_some_iff.1 h
    have hl1 := asUs_eq hx1
    subst hl1
    obtain ⟨q, hq, rfl⟩ := Option.map_eq_some_iff.1 h1
    intro F w us hF hG hA
    rw [RelL] at hA
    obtain ⟨u0, us0, rfl, hu0, hA0⟩ := hA
    rw [Rel] at hu0
    obtain ⟨vs0, rfl, hv0⟩ := hu0
    rw [RelL] at hv0
    obtain ⟨c0_0, cs0_0, rfl, hc0_0, hr0_0⟩ := hv0
    rw [RelL] at hr0_0
    obtain ⟨c0_1, cs0_1, rfl, hc0_1, hr0_1⟩ := hr0_0
    rw [RelL] at hr0_1
    subst hr0_1
    have e0 := Rel_bool hc0_0
    subst e0
    obtain ⟨A1, k1, rfl, j1, C1⟩ := limbs_arg hc0_1
    rw [RelL] at hA0
    subst hA0
    refine (PResid.whole_Sign.calls x0 _ _ xs1 q w C1 j1 hq).mono ?_
    rintro e w' ⟨rfl, hB⟩
    refine ⟨_, rfl, ?_, hB⟩
    exact Rel_mkint _ _
  · cases h
def p84 : List V → Option V
  | [.lst l0, .int .i64 x1] => (asUs l0).bind fun xs0 => (natdiv_shl.f xs0 x1).map fun r => limbs r
  | _ => none
theorem sp84 {args : List V} {r : V} (h : p84 args = some r) : Sp Tryd.prog Glob 84 args r := by
  unfold p84 at h
  split at h
  · rename_i l0 x1
    obtain ⟨xs0, hx0, h0⟩ := Option.bind_eq_some_iff.1 h
    have hl0 := asUs_eq hx0
    subst hl0
    obtain ⟨q, hq, rfl⟩ := Option.map_eq_some_iff.1 h0
    intro F w us hF hG hA
    rw [RelL] at hA
    obtain ⟨u0, us0, rfl, hu0, hA0⟩ := hA
    obtain ⟨A0, k0, rfl, j0, C0⟩ := limbs_arg hu0
    rw [RelL] at hA0
    obtain ⟨u1, us1, rfl, hu1, hA1⟩ := hA0
    have e1 := Rel_int hu1
    subst e1
    rw [RelL] at hA1
    subst hA1
    refine (PResid.natdiv_shl.calls _ _ xs0 x1 q w C0 j0 hq).mono ?_
    rintro e w' ⟨v0, rfl, hR0, hB⟩
    refine ⟨_, rfl, ?_, hB⟩
    exact R_limbs hR0 hF
  · cases h
def p72 : List V → Option V
  | [.agg [.bool x0, .lst l1], .int .i64 x2] => (asUs l1).bind fun xs1 => (dyadic_told.f x0 xs1 x2).map fun r => .tup [.agg [.bool (r.1), limbs (r.2.1), .int .i64 (r.2.2.1)], .int .i64 (r.2.2.2)]
  | _ => none
theorem sp72 {args : List V} {r : V} (h : p72 args = some r) : Sp Tryd.prog Glob 72 args r := by
  unfold p72 at h
  split at h
  · rename_i x0 l1 x2
    obtain ⟨xs1, hx1, h1⟩ := Option.bind_eq_some_iff.1 h
    have hl1 := asUs_eq hx1
    subst hl1
    obtain ⟨q, hq, rfl⟩ := Option.map_eq_some_iff.1 h1
    intro F w us hF hG hA
    rw [RelL] at hA
    obtain ⟨u0, us0, rfl, hu0, hA0⟩ := hA
    rw [Rel] at hu0
    obtain ⟨vs0, rfl, hv0⟩ := hu0
    rw [RelL] at hv0
    obtain ⟨c0_0, cs0_0, rfl, hc0_0, hr0_0⟩ := hv0
    rw [RelL] at hr0_0
    obtain ⟨c0_1, cs0_1, rfl, hc0_1, hr0_1⟩ := hr0_0
    rw [RelL] at hr0_1
    subst hr0_1
    have e0 := Rel_bool hc0_0
    subst e0
    obtain ⟨A1, k1, rfl, j1, C1⟩ := limbs_arg hc0_1
    rw [RelL] at hA0
    obtain ⟨u1, us1, rfl, hu1, hA1⟩ := hA0
    have e2 := Rel_int hu1
    subst e2
    rw [RelL] at hA1
    subst hA1
    refine (PResid.dyadic_told.calls x0 _ _ xs1 x2 _ _ _ _ w C1 j1 hq hG).mono ?_
    rintro e w' ⟨v1, rfl, hR1, hB⟩
    refine ⟨_, rfl, ?_, hB⟩
    rw [Rel]
    exact ⟨_, rfl, (by rw [RelL]; exact ⟨_, _, rfl, (by rw [Rel]; exact ⟨_, rfl, (by rw [RelL]; exact ⟨_, _, rfl, Rel_mkbool _, (by rw [RelL]; exact ⟨_, _, rfl, R_limbs hR1 hF, (by rw [RelL]; exact ⟨_, _, rfl, Rel_mkint _ _, (by rw [RelL])⟩)⟩)⟩)⟩), (by rw [RelL]; exact ⟨_, _, rfl, Rel_mkint _ _, (by rw [RelL])⟩)⟩)⟩
  · cases h
def p87 : List V → Option V
  | [.bool x0, .lst l1] => (asUs l1).bind fun xs1 => (whole_made.f x0 xs1).map fun r => .agg [.bool (r.1), limbs (r.2)]
  | _ => none
theorem sp87 {args : List V} {r : V} (h : p87 args = some r) : Sp Tryd.prog Glob 87 args r := by
  unfold p87 at h
  split at h
  · rename_i x0 l1
    obtain ⟨xs1, hx1, h1⟩ := Option.bind_eq_some_iff.1 h
    have hl1 := asUs_eq hx1
    subst hl1
    obtain ⟨q, hq, rfl⟩ := Option.map_eq_some_iff.1 h1
    intro F w us hF hG hA
    rw [RelL] at hA
    obtain ⟨u0, us0, rfl, hu0, hA0⟩ := hA
    have e0 := Rel_bool hu0
    subst e0
    rw [RelL] at hA0
    obtain ⟨u1, us1, rfl, hu1, hA1⟩ := hA0
    obtain ⟨A1, k1, rfl, j1, C1⟩ := limbs_arg hu1
    rw [RelL] at hA1
    subst hA1
    refine (PResid.whole_made.calls x0 _ _ xs1 _ _ w C1 j1 hq).mono ?_
    rintro e w' ⟨v1, rfl, hR1, hB⟩
    refine ⟨_, rfl, ?_, hB⟩
    exact (by rw [Rel]; exact ⟨_, rfl, (by rw [RelL]; exact ⟨_, _, rfl, Rel_mkbool _, (by rw [RelL]; exact ⟨_, _, rfl, R_limbs hR1 hF, (by rw [RelL])⟩)⟩)⟩)
  · cases h
def p88 : List V → Option V
  | [.lst l0, .lst l1] => (asUs l0).bind fun xs0 => (asUs l1).bind fun xs1 => (nat_Add.f xs0 xs1).map fun r => limbs r
  | _ => none
theorem sp88 {args : List V} {r : V} (h : p88 args = some r) : Sp Tryd.prog Glob 88 args r := by
  unfold p88 at h
  split at h
  · rename_i l0 l1
    obtain ⟨xs0, hx0, h0⟩ := Option.bind_eq_some_iff.1 h
    have hl0 := asUs_eq hx0
    subst hl0
    obtain ⟨xs1, hx1, h1⟩ := Option.bind_eq_some_iff.1 h0
    have hl1 := asUs_eq hx1
    subst hl1
    obtain ⟨q, hq, rfl⟩ := Option.map_eq_some_iff.1 h1
    intro F w us hF hG hA
    rw [RelL] at hA
    obtain ⟨u0, us0, rfl, hu0, hA0⟩ := hA
    obtain ⟨A0, k0, rfl, j0, C0⟩ := limbs_arg hu0
    rw [RelL] at hA0
    obtain ⟨u1, us1, rfl, hu1, hA1⟩ := hA0
    obtain ⟨A1, k1, rfl, j1, C1⟩ := limbs_arg hu1
    rw [RelL] at hA1
    subst hA1
    refine (PResid.nat_Add.calls _ _ xs0 _ _ xs1 q w C0 j0 C1 j1 hq).mono ?_
    rintro e w' ⟨v0, rfl, hR0, hB⟩
    refine ⟨_, rfl, ?_, hB⟩
    exact R_limbs hR0 hF
  · cases h
def p91 : List V → Option V
  | [.lst l0, .lst l1] => (asUs l0).bind fun xs0 => (asUs l1).bind fun xs1 => (nat_Sub.f xs0 xs1).map fun r => limbs r
  | _ => none
theorem sp91 {args : List V} {r : V} (h : p91 args = some r) : Sp Tryd.prog Glob 91 args r := by
  unfold p91 at h
  split at h
  · rename_i l0 l1
    obtain ⟨xs0, hx0, h0⟩ := Option.bind_eq_some_iff.1 h
    have hl0 := asUs_eq hx0
    subst hl0
    obtain ⟨xs1, hx1, h1⟩ := Option.bind_eq_some_iff.1 h0
    have hl1 := asUs_eq hx1
    subst hl1
    obtain ⟨q, hq, rfl⟩ := Option.map_eq_some_iff.1 h1
    intro F w us hF hG hA
    rw [RelL] at hA
    obtain ⟨u0, us0, rfl, hu0, hA0⟩ := hA
    obtain ⟨A0, k0, rfl, j0, C0⟩ := limbs_arg hu0
    rw [RelL] at hA0
    obtain ⟨u1, us1, rfl, hu1, hA1⟩ := hA0
    obtain ⟨A1, k1, rfl, j1, C1⟩ := limbs_arg hu1
    rw [RelL] at hA1
    subst hA1
    refine (PResid.nat_Sub.calls _ _ xs0 _ _ xs1 q w C0 j0 C1 j1 hq).mono ?_
    rintro e w' ⟨v0, rfl, hR0, hB⟩
    refine ⟨_, rfl, ?_, hB⟩
    exact R_limbs hR0 hF
  · cases h
def p92 : List V → Option V
  | [.lst l0, .lst l1] => (asUs l0).bind fun xs0 => (asUs l1).bind fun xs1 => (nat_Mul.f xs0 xs1).map fun r => limbs r
  | _ => none
theorem sp92 {args : List V} {r : V} (h : p92 args = some r) : Sp Tryd.prog Glob 92 args r := by
  unfold p92 at h
  split at h
  · rename_i l0 l1
    obtain ⟨xs0, hx0, h0⟩ := Option.bind_eq_some_iff.1 h
    have hl0 := asUs_eq hx0
    subst hl0
    obtain ⟨xs1, hx1, h1⟩ := Option.bind_eq_some_iff.1 h0
    have hl1 := asUs_eq hx1
    subst hl1
    obtain ⟨q, hq, rfl⟩ := Option.map_eq_some_iff.1 h1
    intro F w us hF hG hA
    rw [RelL] at hA
    obtain ⟨u0, us0, rfl, hu0, hA0⟩ := hA
    obtain ⟨A0, k0, rfl, j0, C0⟩ := limbs_arg hu0
    rw [RelL] at hA0
    obtain ⟨u1, us1, rfl, hu1, hA1⟩ := hA0
    obtain ⟨A1, k1, rfl, j1, C1⟩ := limbs_arg hu1
    rw [RelL] at hA1
    subst hA1
    refine (PResid.nat_Mul.calls _ _ xs0 _ _ xs1 q w C0 j0 C1 j1 hq).mono ?_
    rintro e w' ⟨v0, rfl, hR0, hB⟩
    refine ⟨_, rfl, ?_, hB⟩
    exact R_limbs hR0 hF
  · cases h
def p90 : List V → Option V
  | [.lst l0, .lst l1] => (asUs l0).bind fun xs0 => (asUs l1).bind fun xs1 => (nat_Cmp.f xs0 xs1).map fun r => .int .i64 r
  | _ => none
theorem sp90 {args : List V} {r : V} (h : p90 args = some r) : Sp Tryd.prog Glob 90 args r := by
  unfold p90 at h
  split at h
  · rename_i l0 l1
    obtain ⟨xs0, hx0, h0⟩ := Option.bind_eq_some_iff.1 h
    have hl0 := asUs_eq hx0
    subst hl0
    obtain ⟨xs1, hx1, h1⟩ := Option.bind_eq_some_iff.1 h0
    have hl1 := asUs_eq hx1
    subst hl1
    obtain ⟨q, hq, rfl⟩ := Option.map_eq_some_iff.1 h1
    intro F w us hF hG hA
    rw [RelL] at hA
    obtain ⟨u0, us0, rfl, hu0, hA0⟩ := hA
    obtain ⟨A0, k0, rfl, j0, C0⟩ := limbs_arg hu0
    rw [RelL] at hA0
    obtain ⟨u1, us1, rfl, hu1, hA1⟩ := hA0
    obtain ⟨A1, k1, rfl, j1, C1⟩ := limbs_arg hu1
    rw [RelL] at hA1
    subst hA1
    refine (PResid.nat_Cmp.calls _ _ xs0 _ _ xs1 q w C0 j0 C1 j1 hq).mono ?_
    rintro e w' ⟨rfl, hB⟩
    refine ⟨_, rfl, ?_, hB⟩
    exact Rel_mkint _ _
  · cases h
end Go.Proofs.YtejmahnbecglfaaDoor.Den
