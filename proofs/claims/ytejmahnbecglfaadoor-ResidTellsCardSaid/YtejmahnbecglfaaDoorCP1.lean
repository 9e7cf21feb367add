/- Given functions: their contracts, in abstract values. -/
import Derived.Test.YtejmahnbecglfaaDoorCDnB
import Derived.Test.YtejmahnbecglfaaDoorCOwnL

set_option linter.unusedVariables false
set_option linter.unnecessarySimpa false
set_option linter.unusedSimpArgs false
namespace Go.Proofs.YtejmahnbecglfaaDoor.Den
open Go Go.RowKit Go.Proofs.YtejmahnbecglfaaDoorW.PrintWords Go.Proofs.YtejmahnbecglfaaDoorW.PrintLast Go.Proofs.YtejmahnbecglfaaDoorW.PrintMore
open Go.Proofs.YtejmahnbecglfaaDoor.OwnA (u64s Glob glob_below)

def asU : V → Option Int
  | .int .u64 n => some n
  | _ => none
def asUs : List V → Option (List Int)
  | [] => some []
  | v :: l => (asU v).bind fun x => (asUs l).map (x :: ·)
def limbs (l : List Int) : V := .lst (l.map (V.int .u64))
theorem asUs_map (l : List Int) : asUs (l.map (V.int .u64)) = some l := by
  induction l with
  | nil => rfl
  | cons x l ih => simp [asUs, asU, ih]
theorem asUs_eq {l : List V} {xs : List Int} (h : asUs l = some xs) : l = xs.map (V.int .u64) := by
  induction l generalizing xs with
  | nil => simp only [asUs, Option.some.injEq] at h; subst h; rfl
  | cons v l ih =>
    unfold asUs at h
    obtain ⟨x, hx, h⟩ := Option.bind_eq_some_iff.1 h
    obtain ⟨ys, hy, rfl⟩ := Option.map_eq_some_iff.1 h
    have hv : v = .int .u64 x := by
      unfold asU at hx
      split at hx
      · simp only [Option.some.injEq] at hx; rw [hx]
      · cases hx
    rw [hv, ih hy]
    rfl
/-- limbs, as the kit's words have them -/
theorem limbs_C {hot : Nat → Prop} {w : World} {xs : List Int} {u : Value} (h : relP hot w (limbs xs) [u]) : ∃ A c, u = .slice A xs.length c ∧ xs.length ≤ c ∧ Kd.C (Kd.int .u64) w A xs.length xs := by
  unfold limbs relP at h
  obtain ⟨A, c, e, h1, h2, h3⟩ := h
  simp only [List.cons.injEq, and_true, List.length_map] at e h1 h2
  refine ⟨A, c, e, h1, rfl, h2, fun hp => ?_⟩
  rcases h3 with h3 | ⟨b, o, sz, eA, hs, _, hr⟩
  · cases xs with
    | nil => simp at hp
    | cons _ _ => simp at h3
  · refine ⟨⟨b, o, none⟩, eA, fun j p hj => ?_⟩
    obtain ⟨us, g1, g2, g3⟩ := relRow_get _ 0 hr j (.int .u64 p) (by rw [List.getElem?_map, hj]; rfl)
    unfold relP at g2
    subst g2
    have hsz : sz = 1 := by simpa using g1.symm
    subst hsz
    refine ⟨[.int .u64 p], rfl, rfl, fun i u hu => ?_⟩
    have := g3 i u hu
    rw [Nat.zero_add] at this
    rw [Addr.add_mid, ← Nat.add_assoc]
    exact this
theorem C_limbs {hot : Nat → Prop} {w : World} {xs : List Int} {A : Option Addr} {c : Nat} (h : Kd.C (Kd.int .u64) w A xs.length xs) (hc : xs.length ≤ c) (hb : ∀ ad, A = some ad → 0 < xs.length → ¬ hot ad.block) : relP hot w (limbs xs) [.slice A xs.length c] := by
  unfold limbs relP
  refine ⟨A, c, by rw [List.length_map], by rw [List.length_map]; exact hc, by rw [List.length_map]; exact h.2.1, ?_⟩
  by_cases he : xs = []
  · left; rw [he]; rfl
  · right
    have hp : 0 < xs.length := List.length_pos_iff.2 he
    obtain ⟨ad, eA, hr⟩ := h.2.2 hp
    have hspot : ad.spot = none := by
      obtain ⟨p, hp0⟩ : ∃ p, xs[0]? = some p := ⟨xs[0], List.getElem?_eq_getElem hp⟩
      obtain ⟨c', h1, h2, h3⟩ := hr 0 p hp0
      have hc0 : c' = [.int .u64 p] := h2
      have := h3 0 (.int .u64 p) (by rw [hc0]; rfl)
      rw [Nat.zero_mul, Nat.add_zero] at this
      unfold Addr.add at this
      rw [if_pos rfl] at this
      unfold World.cell? at this
      split at this
      · split at this
        · cases this
        · rename_i hs; simpa using hs
      · cases this
    obtain ⟨b, o, sp⟩ := ad
    simp only at hspot
    subst hspot
    refine ⟨b, o, 1, eA, by omega, hb _ eA hp, ?_⟩
    have key : ∀ (l : List Int) (i : Nat), (∀ j p, l[j]? = some p → w.cell? ⟨b, o + (i + j), none⟩ = some (.int .u64 p)) → relRow hot w b o 1 i (l.map (V.int .u64)) := by
      intro l
      induction l with
      | nil => intro i _; unfold List.map relRow; trivial
      | cons x l ih =>
        intro i H
        rw [List.map_cons]
        unfold relRow
        refine ⟨⟨[.int .u64 x], rfl, by unfold relP; rfl, fun j u hj => ?_⟩, ih (i + 1) fun j p hj => ?_⟩
        · cases j with
          | zero =>
            simp only [List.getElem?_cons_zero, Option.some.injEq] at hj
            subst hj
            have := H 0 x rfl
            rw [Nat.mul_one, Nat.add_zero]
            exact this
          | succ j => simp at hj
        · have := H (j + 1) p (by simpa using hj)
          rw [show i + 1 + j = i + (j + 1) by omega]
          exact this
    refine key xs 0 fun j p hj => ?_
    obtain ⟨c', h1, h2, h3⟩ := hr j p hj
    have hc0 : c' = [.int .u64 p] := h2
    have := h3 0 (.int .u64 p) (by rw [hc0]; rfl)
    have hsz : (Kd.int IntKind.u64).sz = 1 := rfl
    rw [hsz, Addr.add_mid, Nat.mul_one, Nat.add_zero] at this
    rw [Nat.zero_add]
    exact this
/-- limbs of a row of the call's own -/
theorem R_limbs {F : Nat → Prop} {w : World} {base e : Nat} {ok : Nat → Prop} {v : Value} {xs : List Int} (h : Kd.R (Kd.int .u64) e w base ok v xs) (hF : ∀ b, F b → b < base) : Rel (ctx0 F) w (limbs xs) v := by
  obtain ⟨A, c, rfl⟩ := Kd.R_slice h
  obtain ⟨h1, h2, h3⟩ := Kd.R_reads' h
  show relP (ctx0 F).hot w (limbs xs) [_]
  refine C_limbs h3 h2 fun ad e hp hh => ?_
  rw [hot0] at hh
  have := Kd.R_base h ad.block (by rw [e]; rfl)
  have := hF _ hh
  omega
theorem limbs_arg {F : Nat → Prop} {w : World} {xs : List Int} {u : Value} (h : Rel (ctx0 F) w (limbs xs) u) : ∃ A c, u = .slice A xs.length c ∧ xs.length ≤ c ∧ Kd.C (Kd.int .u64) w A xs.length xs := limbs_C h
end Go.Proofs.YtejmahnbecglfaaDoor.Den
