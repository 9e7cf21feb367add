/- Parts of the proof, joined: Functions; the whole program. Words for carrying out abstract code by rewriting. What code comes to: words for stepping, without doubling what is left. -/
import Derived.Test.YtmbdbkcifmkpbaaGreatDoorCDn
section
set_option linter.unusedVariables false
set_option linter.unnecessarySimpa false
set_option linter.unusedSimpArgs false
namespace Go.Proofs.YtmbdbkcifmkpbaaGreatDoor.Den
open Go Go.RowKit
section
variable {P : Program} {G : World → Prop}
theorem fn_sound {D : Nat → List V → Option V} (hD : ∀ f args r, D f args = some r → SpA P G f args r) (hm : P.follows .mixedOrders = true) (HG : ∀ w0 w w', G w0 → G w → Below w0.heap.size w w' → G w') (hN : ∀ cap : Array Value, cap.size = 2 → Noop P ⟨.fn (.func NF) cap, #[]⟩) (n : Nat) {f : Nat} {F : FnIr} {args : List V} {r : V}
    (hc : chkF P f F = true) (h : runF D n F args = some r) : Sp P G f args r := by
  intro Fh w us hF hGw hA
  unfold chkF at hc
  split at hc
  · rename_i fn hfn
    split at hc
    · rename_i c hb
      simp only [Bool.and_eq_true, decide_eq_true_iff] at hc
      obtain ⟨h1, h2, h3, h4⟩ := hc
      obtain ⟨l1, l2, l3, l4⟩ := layOk_spec h2
      unfold runF at h
      split at h
      · rename_i hlen
        have hul := RelL_length _ _ hA
        have S0 : St P F.L G w Fh (ctx0 Fh) (args0 args) { tmps := us.toArray ++ Array.replicate (fn.ntmps - us.toArray.size) undef, defers := [] } w := by
          refine ⟨by simp; omega, fun d hd => by simp at hd, fun t ht => ?_, fun id b h => by simp [ctx0] at h, fun k x h => by simp [ctx0] at h, fun k q s e l hk h => ?_, fun id id' b h => by simp [ctx0] at h, fun id b k x h => by simp [ctx0] at h, fun k k' x x' b h => by simp [ctx0] at h, hF, Below.refl _ _, hGw, rfl⟩
          · by_cases hlt : t < args.length
            · have := RelL_get _ _ hA t hlt
              unfold args0
              rw [Array.getD_eq_getD_getElem?, Array.getElem?_append_left (by simp; omega)]
              rw [List.getD_eq_getElem?_getD (l := us), List.getElem?_eq_getElem (by omega)] at this
              simp only [List.getElem?_toArray]
              rw [List.getElem?_eq_getElem (by omega)]
              exact this
            · unfold args0
              rw [show args.getD t V.dead = .dead by rw [List.getD_eq_getElem?_getD, List.getElem?_eq_none (by omega)]; rfl]
              unfold Rel
              trivial
          · unfold args0 at h
            rw [show args.getD (F.L.ab + k) V.dead = .dead by rw [List.getD_eq_getElem?_getD, List.getElem?_eq_none (by omega)]; rfl] at h
            cases h
        have hG : ∀ w1 w2, G w1 → Below w.heap.size w1 w2 → G w2 := fun w1 w2 => HG w w1 w2 hGw
        have fin : ∀ (ρ : Nat → V) (C : Ctx) (a : Act) (w' : World), St P F.L G w Fh C ρ a w' → ((resL ρ F.res).bind fun l => (shrL F.L ρ true l).map fun l => tupV (nmL l)) = some r →
            ∃ v, (results fn a.tmps).run P w' = .ok v w' ∧ ∃ u, Ending.returned v = .returned u ∧ Rel (ctx0 Fh) w' r u ∧ Below w.heap.size w w' := by
          intro ρ C a w' S hr
          have hext := S.cx
          obtain ⟨l, hl, hr⟩ := Option.bind_eq_some_iff.1 hr
          obtain ⟨l', hl', rfl⟩ := Option.map_eq_some_iff.1 hr
          obtain ⟨vs, hvs, hrel⟩ := res_run (P := P) S h2 fn.results.toList F.res l (fun | .tmp t => pure (a.tmps.getD t undef) | .cell p t => do loadVar t (← asAddr (a.tmps.getD p undef))) (fun _ => rfl) (fun _ _ => rfl) h4 hl
          have hrel1 := shrL_Rel S (ks := ownsL l) _ _ _ hl' (fun k h => h) hrel
          have hrel2 : RelL (ctx0 Fh) w' l' vs := RelL_mono ⟨fun id b h => by simp [ctx0] at h, fun k x h => by simp [ctx0] at h, fun b _ hb => ⟨fun hh => hb ?_, rfl⟩⟩ _ _ hrel1
          · have hrel3 := nmL_Rel _ _ hrel2
            have hlv := RelL_length _ _ hrel3
            have hrun : (results fn a.tmps).run P w' = .ok (if h : vs.length = 1 then vs[0] else .tuple vs.toArray) w' := by
              unfold results
              rw [show fn.results = fn.results.toList.toArray by simp, List.mapM_toArray]
              simp only [Sem.run_bind, Sem.run_map]
              have hvs' : ∀ f : ResultVar → Sem Value, (∀ r, f r = (match r with | .tmp t => pure (a.tmps.getD t undef) | .cell p t => do loadVar t (← asAddr (a.tmps.getD p undef)))) → (fn.results.toList.mapM f).run P w' = .ok vs w' := fun f hf => by
                rw [show f = _ from funext hf]; exact hvs
              rw [hvs' _ fun r => by cases r <;> rfl]
              simp only [Result.andThen, Sem.run_pure]
              by_cases h1 : vs.length = 1
              · simp [h1]
              · simp [h1]
            refine ⟨_, hrun, _, rfl, ?_, S.below⟩
            by_cases h1 : vs.length = 1
            · rw [dif_pos h1]
              obtain ⟨u, rfl⟩ : ∃ u, vs = [u] := by
                cases vs with
                | nil => simp at h1
                | cons u vs => cases vs with
                  | nil => exact ⟨u, rfl⟩
                  | cons _ _ => simp at h1
              cases hn : nmL l' with
              | nil => rw [hn] at hlv; simp at hlv
              | cons v rest =>
                rw [hn, RelL] at hrel3
                obtain ⟨u', us', e, h5, h6⟩ := hrel3
                simp only [List.cons.injEq] at e
                obtain ⟨rfl, rfl⟩ := e
                have := RelL_length _ _ h6
                have hrest : rest = [] := List.eq_nil_of_length_eq_zero (by simpa using this.symm)
                subst hrest
                exact h5
            · rw [dif_neg h1]
              have ht : tupV (nmL l') = .tup (nmL l') := by
                cases hn : nmL l' with
                | nil => rfl
                | cons v rest => cases rest with
                  | nil => rw [hn] at hlv; simp at hlv; exact absurd hlv h1
                  | cons _ _ => rfl
              rw [ht]
              unfold Rel
              exact ⟨vs, rfl, hrel3⟩
          · rw [hot0] at hh ⊢
            exact .inl (by rw [show (C.frz (ownsL l)).ext = C.ext from rfl, hext]; exact hh)
        refine calls_of_wp_defers hfn hb ?_
        split at h
        · rename_i ρ hr
          refine wp_mono (run_sound hD hm h2 hG hN n F.ir c (args0 args) _ h3 hr (ctx0 Fh) _ w S0) ?_
          rintro e a w' ⟨rfl, C, S⟩
          exact leaves_noop _ _ S.defs (fun w2 hB => fin ρ C a w2 (S.grow hB (hG _ _ S.g (hB.mono S.below.size))) h)
        · rename_i ρ hr
          refine wp_mono (run_sound hD hm h2 hG hN n F.ir c (args0 args) _ h3 hr (ctx0 Fh) _ w S0) ?_
          rintro e a w' ⟨rfl, C, S⟩
          exact leaves_noop _ _ S.defs (fun w2 hB => fin ρ C a w2 (S.grow hB (hG _ _ S.g (hB.mono S.below.size))) h)
        · simp at h
      · simp at h
    · cases hc
  · cases hc
theorem fr_sound {D : Nat → List V → Option V} (hD : ∀ f args r, D f args = some r → SpA P G f args r) (hm : P.follows .mixedOrders = true) (HG : ∀ w0 w w', G w0 → G w → Below w0.heap.size w w' → G w') (hN : ∀ cap : Array Value, cap.size = 2 → Noop P ⟨.fn (.func NF) cap, #[]⟩) (n : Nat) {f : Nat} {F : FnIr} {args : List V} {r : V}
    (hc : chkF P f F = true) (h : runFr D n F args = some r) : SpF P G f args r := by
  have hshape : ∃ (r' : V) (sz ty : Nat) (cc : List V), r = .tup [r', .arr true sz ty cc] := by
    have key : ∀ ρ, retFr F ρ = some r → ∃ (r' : V) (sz ty : Nat) (cc : List V), r = .tup [r', .arr true sz ty cc] := by
      intro ρ hr
      unfold retFr at hr
      obtain ⟨l, _, hr⟩ := Option.bind_eq_some_iff.1 hr
      split at hr
      · split at hr
        · obtain ⟨y, _, hr⟩ := Option.bind_eq_some_iff.1 hr
          obtain ⟨l', _, rfl⟩ := Option.map_eq_some_iff.1 hr
          exact ⟨_, _, _, _, rfl⟩
        · cases hr
      · cases hr
    unfold runFr at h
    split at h
    · split at h
      · exact key _ h
      · exact key _ h
      · cases h
    · cases h
  obtain ⟨r', sz, ty, cc, rfl⟩ := hshape
  refine ⟨r', sz, ty, cc, rfl, ?_⟩
  intro Fh w us hF hGw hA
  unfold chkF at hc
  split at hc
  · rename_i fn hfn
    split at hc
    · rename_i c hb
      simp only [Bool.and_eq_true, decide_eq_true_iff] at hc
      obtain ⟨h1, h2, h3, h4⟩ := hc
      obtain ⟨l1, l2, l3, l4⟩ := layOk_spec h2
      unfold runFr at h
      split at h
      · rename_i hlen
        have hul := RelL_length _ _ hA
        have S0 : St P F.L G w Fh (ctx0 Fh) (args0 args) { tmps := us.toArray ++ Array.replicate (fn.ntmps - us.toArray.size) undef, defers := [] } w := by
          refine ⟨by simp; omega, fun d hd => by simp at hd, fun t ht => ?_, fun id b h => by simp [ctx0] at h, fun k x h => by simp [ctx0] at h, fun k q s e l hk h => ?_, fun id id' b h => by simp [ctx0] at h, fun id b k x h => by simp [ctx0] at h, fun k k' x x' b h => by simp [ctx0] at h, hF, Below.refl _ _, hGw, rfl⟩
          · by_cases hlt : t < args.length
            · have := RelL_get _ _ hA t hlt
              unfold args0
              rw [Array.getD_eq_getD_getElem?, Array.getElem?_append_left (by simp; omega)]
              rw [List.getD_eq_getElem?_getD (l := us), List.getElem?_eq_getElem (by omega)] at this
              simp only [List.getElem?_toArray]
              rw [List.getElem?_eq_getElem (by omega)]
              exact this
            · unfold args0
              rw [show args.getD t V.dead = .dead by rw [List.getD_eq_getElem?_getD, List.getElem?_eq_none (by omega)]; rfl]
              unfold Rel
              trivial
          · unfold args0 at h
            rw [show args.getD (F.L.ab + k) V.dead = .dead by rw [List.getD_eq_getElem?_getD, List.getElem?_eq_none (by omega)]; rfl] at h
            cases h
        have hG : ∀ w1 w2, G w1 → Below w.heap.size w1 w2 → G w2 := fun w1 w2 => HG w w1 w2 hGw
        have fin : ∀ (ρ : Nat → V) (C : Ctx) (a : Act) (w' : World), St P F.L G w Fh C ρ a w' → retFr F ρ = some (.tup [r', .arr true sz ty cc]) →
            ∃ v, (results fn a.tmps).run P w' = .ok v w' ∧ ∃ u v' xs, Ending.returned v = .returned u ∧ Below w.heap.size w w' ∧ cc.length ≤ big ∧ 0 < sz ∧ w'.ownsRow w.heap.size ty sz v' cc.length xs ∧
              RowL (arr1 Fh ⟨v', cc.length, sz, ty, true⟩).hot w' sz cc xs ∧ Rel (arr1 Fh ⟨v', cc.length, sz, ty, true⟩) w' r' u := by
          intro ρ C a w' S hr
          have hext := S.cx
          unfold retFr at hr
          obtain ⟨l, hl, hr⟩ := Option.bind_eq_some_iff.1 hr
          split at hr
          · rename_i k hown
            split at hr
            · rename_i hk
              obtain ⟨y, hy, hr⟩ := Option.bind_eq_some_iff.1 hr
              obtain ⟨l', hl', hr⟩ := Option.map_eq_some_iff.1 hr
              injection hr with hr
              injection hr with hr1 hr
              injection hr with hr _
              injection hr with _ hr2 hr3 hr4
              subst hr1; subst hr2; subst hr3; subst hr4
              have hρ : ρ (F.L.ab + k) = .arr true y.1 y.2.1 y.2.2 := by
                unfold arrV1 at hy
                split at hy
                · rename_i e
                  simp only [Option.some.injEq] at hy
                  subst hy
                  exact e
                · cases hy
              obtain ⟨x, hx⟩ := S.arn k _ _ _ _ hk hρ
              obtain ⟨_, l2, xs, q1, q2, q3, q4, q5, q6⟩ := S.arr k x hx
              rw [hρ] at q1
              injection q1 with m1 m2 m3 m4
              obtain ⟨vs, hvs, hrel⟩ := res_run (P := P) S h2 fn.results.toList F.res l (fun | .tmp t => pure (a.tmps.getD t undef) | .cell p t => do loadVar t (← asAddr (a.tmps.getD p undef))) (fun _ => rfl) (fun _ _ => rfl) h4 hl
              have hF : ∀ b, Fh b → C.hot b := fun b hb => .inl (by rw [hext]; exact hb)
              have hrelX := shrFL_Rel (c := y.2.2) S hx m1.symm (by rw [hρ, m2, m3]) hF _ _ _ hl' hrel
              have hrun : (results fn a.tmps).run P w' = .ok (if h : vs.length = 1 then vs[0] else .tuple vs.toArray) w' := by
                unfold results
                rw [show fn.results = fn.results.toList.toArray by simp, List.mapM_toArray]
                simp only [Sem.run_bind, Sem.run_map]
                have hvs' : ∀ f : ResultVar → Sem Value, (∀ r, f r = (match r with | .tmp t => pure (a.tmps.getD t undef) | .cell p t => do loadVar t (← asAddr (a.tmps.getD p undef)))) → (fn.results.toList.mapM f).run P w' = .ok vs w' := fun f hf => by
                  rw [show f = _ from funext hf]; exact hvs
                rw [hvs' _ fun r => by cases r <;> rfl]
                simp only [Result.andThen, Sem.run_pure]
                by_cases h1 : vs.length = 1
                · simp [h1]
                · simp [h1]
              refine ⟨_, hrun, _, x.v, xs, rfl, S.below, by rw [m4]; omega, by omega, ?_, ?_, ?_⟩
              · rw [m3, m2, m4, q2]; exact q5
              · rw [m2, m4] at *
                refine RowL_mono (hot' := (arr1 Fh ⟨x.v, l2.length, x.sz, y.2.1, true⟩).hot) (w := w') (w' := w') (fun b _ hb => ⟨fun h => hb (((hot1 _ _ b).1 h).elim (hF b) fun h => .inr (.inr ⟨k, x, hx, m1.symm, h.2⟩)), rfl⟩) _ _ q6
              · have := res_val hrelX
                rw [← m2, ← m3] at this
                exact this
            · cases hr
          · cases hr
        refine calls_of_wp_defers hfn hb ?_
        split at h
        · rename_i ρ hr
          refine wp_mono (run_sound hD hm h2 hG hN n F.ir c (args0 args) _ h3 hr (ctx0 Fh) _ w S0) ?_
          rintro e a w' ⟨rfl, C, S⟩
          exact leaves_noop _ _ S.defs (fun w2 hB => fin ρ C a w2 (S.grow hB (hG _ _ S.g (hB.mono S.below.size))) h)
        · rename_i ρ hr
          refine wp_mono (run_sound hD hm h2 hG hN n F.ir c (args0 args) _ h3 hr (ctx0 Fh) _ w S0) ?_
          rintro e a w' ⟨rfl, C, S⟩
          exact leaves_noop _ _ S.defs (fun w2 hB => fin ρ C a w2 (S.grow hB (hG _ _ S.g (hB.mono S.below.size))) h)
        · simp at h
      · simp at h
    · cases hc
  · cases hc
end

/-! ### the whole program -/
structure Env where
  fns : Nat → Option FnIr
  prim : Nat → Option (List V → Option V)
def den (E : Env) : Nat → Nat → List V → Option V
  | 0, _, _ => none
  | n + 1, f, args => match E.prim f with
    | some p => p args
    | none => match E.fns f with
      | some F => if f < FR then runF (den E n) n F args else runFr (den E n) n F args
      | none => none
structure Env.Ok (E : Env) (P : Program) (G : World → Prop) : Prop where
  fns : ∀ f F, E.fns f = some F → chkF P (if f < FR then f else f - FR) F = true
  prim : ∀ f p args r, E.prim f = some p → p args = some r → SpA P G f args r
  mixed : P.follows .mixedOrders = true
  noop : ∀ cap : Array Value, cap.size = 2 → Noop P ⟨.fn (.func NF) cap, #[]⟩
  gl : ∀ w0 w w', G w0 → G w → Below w0.heap.size w w' → G w'
theorem den_sound {E : Env} {P : Program} {G : World → Prop} (H : E.Ok P G) : ∀ (n f : Nat) (args : List V) (r : V), den E n f args = some r → SpA P G f args r := by
  intro n
  induction n with
  | zero => intro f args r h; simp [den] at h
  | succ n ih =>
    intro f args r h
    unfold den at h
    split at h
    · rename_i p hp
      exact H.prim f p args r hp h
    · split at h
      · rename_i F hF
        have hc := H.fns f F hF
        split at h
        · rename_i hf
          rw [if_pos hf] at hc
          exact ⟨fun _ => fn_sound ih H.mixed H.gl H.noop n hc h, fun h' => absurd hf (Nat.not_lt.2 h')⟩
        · rename_i hf
          rw [if_neg hf] at hc
          exact ⟨fun h' => absurd h' hf, fun _ => fr_sound ih H.mixed H.gl H.noop n hc h⟩
      · simp at h

/-! ### more rounds -/
section
variable {D D' : Nat → List V → Option V}
theorem opV_mono (hD : ∀ f a r, D f a = some r → D' f a = some r) {L : Lay} {ρ : Nat → V} {d : Option Nat} {o : Op1} {x : V × Wr} (h : opV D L ρ d o = some x) : opV D' L ρ d o = some x := by
  cases o with
  | call ra fr f args =>
    unfold opV at h ⊢
    dsimp only at h ⊢
    obtain ⟨vs, h1, h⟩ := Option.bind_eq_some_iff.1 h
    obtain ⟨r, h2, h⟩ := Option.bind_eq_some_iff.1 h
    rw [h1, Option.bind_some, hD f (nmL vs) r h2, Option.bind_some]
    exact h
  | callf k f args =>
    unfold opV at h ⊢
    dsimp only at h ⊢
    obtain ⟨vs, h1, h⟩ := Option.bind_eq_some_iff.1 h
    obtain ⟨r, h2, h⟩ := Option.bind_eq_some_iff.1 h
    rw [h1, Option.bind_some, hD (FR + f) (nmL vs) r h2, Option.bind_some]
    exact h
  | _ => exact h
theorem exec_mono (hD : ∀ f a r, D f a = some r → D' f a = some r) {L : Lay} {ρ : Nat → V} {i : Ins} {ws : Wr} (h : exec D L ρ i = some ws) : exec D' L ρ i = some ws := by
  unfold exec at h ⊢
  split at h
  · rename_i hs
    rw [if_pos hs]
    split at h
    · obtain ⟨x, hx, rfl⟩ := Option.map_eq_some_iff.1 h
      rw [opV_mono hD hx]; rfl
    · split at h
      · split at h
        · rename_i hb
          rw [if_pos hb]
          obtain ⟨x, hx, rfl⟩ := Option.map_eq_some_iff.1 h
          rw [opV_mono hD hx]; rfl
        · rename_i hb
          rw [if_neg hb]
          exact h
      · exact h
      · simp at h
  · simp at h
theorem runI_mono (hD : ∀ f a r, D f a = some r → D' f a = some r) {L : Lay} : ∀ (is : List Ins) (ρ ρ' : Nat → V), runI D L is ρ = some ρ' → runI D' L is ρ = some ρ'
  | [], ρ, ρ', h => h
  | i :: is, ρ, ρ', h => by
    unfold runI at h ⊢
    obtain ⟨ws, h1, h2⟩ := Option.bind_eq_some_iff.1 h
    rw [exec_mono hD h1, Option.bind_some]
    exact runI_mono hD is _ _ h2
theorem loopF_mono {b b' : (Nat → V) → Option Out} (hb : ∀ ρ o, b ρ = some o → b' ρ = some o) {kl : (Nat → V) → Nat → V} : ∀ (n m : Nat) (ρ : Nat → V) (o : Out), n ≤ m → loopF b kl n ρ = some o → loopF b' kl m ρ = some o
  | 0, m, ρ, o, _, h => by simp [loopF] at h
  | n + 1, m, ρ, o, hm, h => by
    obtain ⟨m, rfl⟩ : ∃ j, m = j + 1 := ⟨m - 1, by omega⟩
    unfold loopF at h ⊢
    split at h
    · rename_i ρ' h1
      rw [hb _ _ h1]
      exact loopF_mono hb n m _ o (by omega) h
    · rename_i id ρ' h1
      rw [hb _ _ h1]; exact h
    · rename_i ρ' h1
      rw [hb _ _ h1]; exact h
    · simp at h
theorem run_mono (hD : ∀ f a r, D f a = some r → D' f a = some r) {L : Lay} {n m : Nat} (hnm : n ≤ m) : ∀ (ir : Ir) (ρ : Nat → V) (o : Out), run D L n ir ρ = some o → run D' L m ir ρ = some o := by
  intro ir
  induction ir with
  | skip => intro ρ o h; exact h
  | reg is =>
    intro ρ o h
    unfold run at h ⊢
    obtain ⟨ρ', h1, rfl⟩ := Option.map_eq_some_iff.1 h
    rw [runI_mono hD is _ _ h1]; rfl
  | seq a b iha ihb =>
    intro ρ o h
    unfold run at h ⊢
    split at h
    · rename_i ρ' h1
      rw [iha _ _ h1]
      exact ihb _ _ h
    · rename_i id ρ' h1
      rw [iha _ _ h1]; exact h
    · rename_i ρ' h1
      rw [iha _ _ h1]; exact h
    · simp at h
  | cond c a b iha ihb =>
    intro ρ o h
    unfold run at h ⊢
    split at h
    · exact iha _ _ h
    · exact ihb _ _ h
    · simp at h
  | block id b ih =>
    intro ρ o h
    unfold run at h ⊢
    split at h
    · rename_i ρ' h1
      rw [ih _ _ h1]; exact h
    · rename_i id' ρ' h1
      rw [ih _ _ h1]; exact h
    · rename_i ρ' h1
      rw [ih _ _ h1]; exact h
    · simp at h
  | exit id => intro ρ o h; exact h
  | loop k b ih =>
    intro ρ o h
    unfold run at h ⊢
    exact loopF_mono ih n m ρ o hnm h
  | ret => intro ρ o h; exact h
  | kil k b ih =>
    intro ρ o h
    unfold run at h ⊢
    exact ih _ _ h
  | bad => intro ρ o h; simp [run] at h
  | dfr t => intro ρ o h; unfold run at h ⊢; exact h
end
theorem runFr_mono {D D' : Nat → List V → Option V} (hD : ∀ f a r, D f a = some r → D' f a = some r) {n m : Nat} (hnm : n ≤ m) {F : FnIr} {args : List V} {r : V} (h : runFr D n F args = some r) : runFr D' m F args = some r := by
  unfold runFr at h ⊢
  split at h
  · rename_i hl
    rw [if_pos hl]
    split at h
    · rename_i ρ h1
      rw [run_mono hD hnm _ _ _ h1]; exact h
    · rename_i ρ h1
      rw [run_mono hD hnm _ _ _ h1]; exact h
    · simp at h
  · simp at h
theorem runF_mono {D D' : Nat → List V → Option V} (hD : ∀ f a r, D f a = some r → D' f a = some r) {n m : Nat} (hnm : n ≤ m) {F : FnIr} {args : List V} {r : V} (h : runF D n F args = some r) : runF D' m F args = some r := by
  unfold runF at h ⊢
  split at h
  · rename_i hl
    rw [if_pos hl]
    split at h
    · rename_i ρ h1
      rw [run_mono hD hnm _ _ _ h1]; exact h
    · rename_i ρ h1
      rw [run_mono hD hnm _ _ _ h1]; exact h
    · simp at h
  · simp at h
theorem den_succ (E : Env) : ∀ (n f : Nat) (args : List V) (r : V), den E n f args = some r → den E (n + 1) f args = some r := by
  intro n
  induction n with
  | zero => intro f args r h; simp [den] at h
  | succ n ih =>
    intro f args r h
    rw [den] at h ⊢
    split at h
    · rename_i p hp; exact h
    · split at h
      · rename_i F hF
        split at h
        · rename_i hf
          rw [if_pos hf]
          exact runF_mono ih (Nat.le_succ n) h
        · rename_i hf
          rw [if_neg hf]
          exact runFr_mono ih (Nat.le_succ n) h
      · simp at h
theorem den_mono (E : Env) {n m : Nat} (h : n ≤ m) {f : Nat} {args : List V} {r : V} (hr : den E n f args = some r) : den E m f args = some r := by
  obtain ⟨j, rfl⟩ : ∃ j, m = n + j := ⟨m - n, by omega⟩
  clear h
  induction j with
  | zero => exact hr
  | succ j ih => exact den_succ E _ f args r ih

/-! ### without a count of rounds -/
open Classical in
/-- What a call comes to. -/
noncomputable def D (E : Env) (f : Nat) (args : List V) : Option V := if h : ∃ r n, den E n f args = some r then some h.choose else none
theorem D_of {E : Env} {n f : Nat} {args : List V} {r : V} (h : den E n f args = some r) : D E f args = some r := by
  have hex : ∃ r n, den E n f args = some r := ⟨r, n, h⟩
  unfold D
  rw [dif_pos hex]
  obtain ⟨m, hm⟩ := hex.choose_spec
  have h1 := den_mono E (Nat.le_max_left n m) h
  have h2 := den_mono E (Nat.le_max_right n m) hm
  rw [h1] at h2
  exact congrArg some (Option.some.inj h2).symm
theorem D_den {E : Env} {f : Nat} {args : List V} {r : V} (h : D E f args = some r) : ∃ n, den E n f args = some r := by
  unfold D at h
  split at h
  · rename_i hex
    simp only [Option.some.injEq] at h
    rw [← h]
    exact hex.choose_spec
  · cases h
open Classical in
/-- What a loop comes to. -/
noncomputable def loopW (body : (Nat → V) → Option Out) (kl : (Nat → V) → Nat → V) (ρ : Nat → V) : Option Out := if h : ∃ o n, loopF body kl n ρ = some o then some h.choose else none
theorem loopW_of {body : (Nat → V) → Option Out} {kl : (Nat → V) → Nat → V} {ρ : Nat → V} {n : Nat} {o : Out} (h : loopF body kl n ρ = some o) : loopW body kl ρ = some o := by
  have hex : ∃ o n, loopF body kl n ρ = some o := ⟨o, n, h⟩
  unfold loopW
  rw [dif_pos hex]
  obtain ⟨m, hm⟩ := hex.choose_spec
  have h1 := loopF_mono (fun _ _ h => h) n (max n m) ρ o (Nat.le_max_left _ _) h
  have h2 := loopF_mono (fun _ _ h => h) m (max n m) ρ _ (Nat.le_max_right _ _) hm
  rw [h1] at h2
  exact congrArg some (Option.some.inj h2).symm
theorem loopW_F {body : (Nat → V) → Option Out} {kl : (Nat → V) → Nat → V} {ρ : Nat → V} {o : Out} (h : loopW body kl ρ = some o) : ∃ n, loopF body kl n ρ = some o := by
  unfold loopW at h
  split at h
  · rename_i hex
    simp only [Option.some.injEq] at h
    rw [← h]
    exact hex.choose_spec
  · cases h
/-- A loop, unrolled once. -/
theorem loopW_eq (body : (Nat → V) → Option Out) (kl : (Nat → V) → Nat → V) (ρ : Nat → V) : loopW body kl ρ = match body ρ with
    | some (.norm ρ') => loopW body kl (kl ρ')
    | some (.exit id ρ') => some (.exit id ρ')
    | some (.ret ρ') => some (.ret ρ')
    | none => none := by
  have key : ∀ o, (loopW body kl ρ = some o ↔ (match body ρ with
    | some (.norm ρ') => loopW body kl (kl ρ')
    | some (.exit id ρ') => some (.exit id ρ')
    | some (.ret ρ') => some (.ret ρ')
    | none => none) = some o) := by
    intro o
    constructor
    · intro h
      obtain ⟨n, hn⟩ := loopW_F h
      cases n with
      | zero => simp [loopF] at hn
      | succ n =>
        unfold loopF at hn
        split at hn
        · rename_i ρ' h1; rw [h1]; exact loopW_of hn
        · rename_i id ρ' h1; rw [h1]; exact hn
        · rename_i ρ' h1; rw [h1]; exact hn
        · cases hn
    · intro h
      split at h
      · rename_i ρ' h1
        obtain ⟨n, hn⟩ := loopW_F h
        exact loopW_of (n := n + 1) (by unfold loopF; rw [h1]; exact hn)
      · rename_i id ρ' h1
        exact loopW_of (n := 1) (by unfold loopF; rw [h1]; exact h)
      · rename_i ρ' h1
        exact loopW_of (n := 1) (by unfold loopF; rw [h1]; exact h)
      · cases h
  cases h : loopW body kl ρ with
  | some o => exact ((key o).1 h).symm
  | none =>
    cases h2 : (match body ρ with
    | some (.norm ρ') => loopW body kl (kl ρ')
    | some (.exit id ρ') => some (.exit id ρ')
    | some (.ret ρ') => some (.ret ρ')
    | none => none) with
    | none => rfl
    | some o => rw [(key o).2 h2] at h; cases h
noncomputable def runW (D : Nat → List V → Option V) (L : Lay) : Ir → (Nat → V) → Option Out
  | .skip, ρ => some (.norm ρ)
  | .reg is, ρ => (runI D L is ρ).map .norm
  | .seq a b, ρ => match runW D L a ρ with
    | some (.norm ρ') => runW D L b ρ'
    | some (.exit id ρ') => some (.exit id ρ')
    | some (.ret ρ') => some (.ret ρ')
    | none => none
  | .cond c a b, ρ => match ev ρ c with
    | .bool true => runW D L a ρ
    | .bool false => runW D L b ρ
    | _ => none
  | .block id b, ρ => match runW D L b ρ with
    | some (.norm ρ') => some (.norm ρ')
    | some (.exit id' ρ') => if id' = id then some (.norm ρ') else some (.exit id' ρ')
    | some (.ret ρ') => some (.ret ρ')
    | none => none
  | .exit id, ρ => some (.exit id ρ)
  | .loop k b, ρ => loopW (runW D L b) (kilR L k) ρ
  | .ret, ρ => some (.ret ρ)
  | .kil k b, ρ => runW D L b (kilR L k ρ)
  | .bad, ρ => none
  | .dfr t, ρ => if t < L.nt ∧ dstB ρ (some t) = true then some (.norm (upd ρ (dstW .dead (some t)))) else none
theorem opV_den {E : Env} {L : Lay} {ρ : Nat → V} {d : Option Nat} {o : Op1} {x : V × Wr} (h : opV (D E) L ρ d o = some x) : ∃ n, opV (den E n) L ρ d o = some x := by
  cases o with
  | call ra fr f args =>
    unfold opV at h
    dsimp only at h
    obtain ⟨vs, h1, h⟩ := Option.bind_eq_some_iff.1 h
    obtain ⟨r, h2, h⟩ := Option.bind_eq_some_iff.1 h
    obtain ⟨n, hn⟩ := D_den h2
    refine ⟨n, ?_⟩
    unfold opV
    dsimp only
    rw [h1, Option.bind_some, hn, Option.bind_some]
    exact h
  | callf k f args =>
    unfold opV at h
    dsimp only at h
    obtain ⟨vs, h1, h⟩ := Option.bind_eq_some_iff.1 h
    obtain ⟨r, h2, h⟩ := Option.bind_eq_some_iff.1 h
    obtain ⟨n, hn⟩ := D_den h2
    refine ⟨n, ?_⟩
    unfold opV
    dsimp only
    rw [h1, Option.bind_some, hn, Option.bind_some]
    exact h
  | _ => exact ⟨0, h⟩
theorem exec_den {E : Env} {L : Lay} {ρ : Nat → V} {i : Ins} {ws : Wr} (h : exec (D E) L ρ i = some ws) : ∃ n, exec (den E n) L ρ i = some ws := by
  unfold exec at h
  split at h
  · rename_i hs
    split at h
    · rename_i hg
      obtain ⟨x, hx, rfl⟩ := Option.map_eq_some_iff.1 h
      obtain ⟨n, hn⟩ := opV_den hx
      exact ⟨n, by unfold exec; rw [if_pos hs, hg]; dsimp only; rw [hn]; rfl⟩
    · rename_i t want hg
      split at h
      · rename_i b hb
        split at h
        · rename_i hbw
          obtain ⟨x, hx, rfl⟩ := Option.map_eq_some_iff.1 h
          obtain ⟨n, hn⟩ := opV_den hx
          exact ⟨n, by unfold exec; rw [if_pos hs, hg]; dsimp only; rw [hb]; dsimp only; rw [if_pos hbw, hn]; rfl⟩
        · rename_i hbw
          exact ⟨0, by unfold exec; rw [if_pos hs, hg]; dsimp only; rw [hb]; dsimp only; rw [if_neg hbw]; exact h⟩
      · rename_i hb
        exact ⟨0, by unfold exec; rw [if_pos hs, hg]; dsimp only; rw [hb]; exact h⟩
      · simp at h
  · simp at h
theorem runI_den {E : Env} {L : Lay} : ∀ (is : List Ins) (ρ ρ' : Nat → V), runI (D E) L is ρ = some ρ' → ∃ n, runI (den E n) L is ρ = some ρ'
  | [], ρ, ρ', h => ⟨0, h⟩
  | i :: is, ρ, ρ', h => by
    unfold runI at h
    obtain ⟨ws, h1, h2⟩ := Option.bind_eq_some_iff.1 h
    obtain ⟨n, hn⟩ := exec_den h1
    obtain ⟨m, hm⟩ := runI_den is _ _ h2
    refine ⟨max n m, ?_⟩
    unfold runI
    rw [exec_mono (fun f a r h => den_mono E (Nat.le_max_left n m) h) hn, Option.bind_some]
    exact runI_mono (fun f a r h => den_mono E (Nat.le_max_right n m) h) is _ _ hm
theorem runW_den {E : Env} {L : Lay} : ∀ (ir : Ir) (ρ : Nat → V) (o : Out), runW (D E) L ir ρ = some o → ∃ n, run (den E n) L n ir ρ = some o := by
  intro ir
  induction ir with
  | skip => intro ρ o h; exact ⟨0, h⟩
  | reg is =>
    intro ρ o h
    unfold runW at h
    obtain ⟨ρ', h1, rfl⟩ := Option.map_eq_some_iff.1 h
    obtain ⟨n, hn⟩ := runI_den is _ _ h1
    exact ⟨n, by unfold run; rw [hn]; rfl⟩
  | seq a b iha ihb =>
    intro ρ o h
    unfold runW at h
    split at h
    · rename_i ρ' h1
      obtain ⟨n, hn⟩ := iha _ _ h1
      obtain ⟨m, hm⟩ := ihb _ _ h
      refine ⟨max n m, ?_⟩
      unfold run
      rw [run_mono (fun f a r h => den_mono E (Nat.le_max_left n m) h) (Nat.le_max_left n m) _ _ _ hn]
      exact run_mono (fun f a r h => den_mono E (Nat.le_max_right n m) h) (Nat.le_max_right n m) _ _ _ hm
    · rename_i id ρ' h1
      obtain ⟨n, hn⟩ := iha _ _ h1
      exact ⟨n, by unfold run; rw [hn]; exact h⟩
    · rename_i ρ' h1
      obtain ⟨n, hn⟩ := iha _ _ h1
      exact ⟨n, by unfold run; rw [hn]; exact h⟩
    · simp at h
  | cond c a b iha ihb =>
    intro ρ o h
    unfold runW at h
    split at h
    · rename_i e
      obtain ⟨n, hn⟩ := iha _ _ h
      exact ⟨n, by unfold run; rw [e]; exact hn⟩
    · rename_i e
      obtain ⟨n, hn⟩ := ihb _ _ h
      exact ⟨n, by unfold run; rw [e]; exact hn⟩
    · simp at h
  | block id b ih =>
    intro ρ o h
    unfold runW at h
    split at h
    · rename_i ρ' h1
      obtain ⟨n, hn⟩ := ih _ _ h1
      exact ⟨n, by unfold run; rw [hn]; exact h⟩
    · rename_i id' ρ' h1
      obtain ⟨n, hn⟩ := ih _ _ h1
      exact ⟨n, by unfold run; rw [hn]; exact h⟩
    · rename_i ρ' h1
      obtain ⟨n, hn⟩ := ih _ _ h1
      exact ⟨n, by unfold run; rw [hn]; exact h⟩
    · simp at h
  | exit id => intro ρ o h; exact ⟨0, h⟩
  | loop k b ih =>
    intro ρ o h
    unfold runW at h
    obtain ⟨m, hm⟩ := loopW_F h
    have key : ∀ (m : Nat) (ρ : Nat → V), loopF (runW (D E) L b) (kilR L k) m ρ = some o → ∃ n, loopF (run (den E n) L n b) (kilR L k) n ρ = some o := by
      intro m
      induction m with
      | zero => intro ρ h; simp [loopF] at h
      | succ m ihm =>
        intro ρ h
        unfold loopF at h
        have up : ∀ {n n' : Nat}, n ≤ n' → ∀ ρ o, run (den E n) L n b ρ = some o → run (den E n') L n' b ρ = some o := fun hle ρ o h => run_mono (fun f a r h => den_mono E hle h) hle _ _ _ h
        split at h
        · rename_i ρ' h1
          obtain ⟨n1, hn1⟩ := ih _ _ h1
          obtain ⟨n2, hn2⟩ := ihm _ h
          refine ⟨max n1 n2 + 1, ?_⟩
          unfold loopF
          rw [up (show n1 ≤ max n1 n2 + 1 by omega) _ _ hn1]
          exact loopF_mono (up (show n2 ≤ max n1 n2 + 1 by omega)) n2 (max n1 n2) _ _ (by omega) hn2
        · rename_i id ρ' h1
          obtain ⟨n1, hn1⟩ := ih _ _ h1
          exact ⟨n1 + 1, by unfold loopF; rw [up (Nat.le_succ n1) _ _ hn1]; exact h⟩
        · rename_i ρ' h1
          obtain ⟨n1, hn1⟩ := ih _ _ h1
          exact ⟨n1 + 1, by unfold loopF; rw [up (Nat.le_succ n1) _ _ hn1]; exact h⟩
        · simp at h
    obtain ⟨n, hn⟩ := key m ρ hm
    exact ⟨n, by unfold run; exact hn⟩
  | ret => intro ρ o h; exact ⟨0, h⟩
  | kil k b ih =>
    intro ρ o h
    unfold runW at h
    obtain ⟨n, hn⟩ := ih _ _ h
    exact ⟨n, by unfold run; exact hn⟩
  | bad => intro ρ o h; simp [runW] at h
  | dfr t => intro ρ o h; exact ⟨0, by unfold runW at h; unfold run; exact h⟩
/-- what a function's end comes to -/
def retV (F : FnIr) (ρ : Nat → V) : Option V := (resL ρ F.res).bind fun l => (shrL F.L ρ true l).map fun l => tupV (nmL l)
def outV (F : FnIr) : Option Out → Option V
  | some (.ret ρ) => retV F ρ
  | some (.norm ρ) => retV F ρ
  | _ => none
/-- A FUNCTION, RUN. -/
theorem D_fn {E : Env} {f : Nat} {F : FnIr} {args : List V} {r : V} (hp : E.prim f = none) (hF : E.fns f = some F) (hl : args.length ≤ F.L.nt) (h : outV F (runW (D E) F.L F.ir (args0 args)) = some r) (hf : f < FR := by decide) : D E f args = some r := by
  cases ho : runW (D E) F.L F.ir (args0 args) with
  | none => rw [ho] at h; simp [outV] at h
  | some o =>
    rw [ho] at h
    obtain ⟨n, hn⟩ := runW_den F.ir _ _ ho
    refine D_of (n := n + 1) ?_
    unfold den
    rw [hp]
    dsimp only
    rw [hF]
    dsimp only
    rw [if_pos hf]
    unfold runF
    rw [if_pos hl, hn]
    cases o with
    | norm ρ => exact h
    | ret ρ => exact h
    | exit id ρ => simp [outV] at h
theorem D_prim {E : Env} {f : Nat} {p : List V → Option V} {args : List V} {r : V} (hp : E.prim f = some p) (h : p args = some r) : D E f args = some r := by
  refine D_of (n := 1) ?_
  unfold den
  rw [hp]
  exact h
theorem D_soundA {E : Env} {P : Program} {G : World → Prop} (H : E.Ok P G) {f : Nat} {args : List V} {r : V} (h : D E f args = some r) : SpA P G f args r := by
  obtain ⟨n, hn⟩ := D_den h
  exact den_sound H n f args r hn
theorem D_sound {E : Env} {P : Program} {G : World → Prop} (H : E.Ok P G) {f : Nat} {args : List V} {r : V} (h : D E f args = some r) (hf : f < FR := by decide) : Sp P G f args r := (D_soundA H h).1 hf
end Go.Proofs.YtmbdbkcifmkpbaaGreatDoor.Den
end
section
set_option linter.unusedVariables false
set_option linter.unnecessarySimpa false
set_option linter.unusedSimpArgs false
namespace Go.Proofs.YtmbdbkcifmkpbaaGreatDoor.Den
open Go Go.RowKit

theorem args0_zero (v : V) (l : List V) : args0 (v :: l) 0 = v := rfl
theorem args0_succ (v : V) (l : List V) (n : Nat) : args0 (v :: l) (n + 1) = args0 l n := rfl
theorem args0_nil (n : Nat) : args0 [] n = .dead := rfl
theorem upd_nil (ρ : Nat → V) : upd ρ [] = ρ := rfl
theorem upd_cons (ρ : Nat → V) (t : Nat) (v : V) (ws : Wr) : upd ρ ((t, v) :: ws) = upd (upd1 ρ t v) ws := rfl
theorem upd1_at (ρ : Nat → V) (t : Nat) (v : V) (s : Nat) : upd1 ρ t v s = if s = t then v else ρ s := rfl
section
variable (D : Nat → List V → Option V) (L : Lay)
theorem runI_nil (ρ : Nat → V) : runI D L [] ρ = some ρ := rfl
theorem runI_cons (i : Ins) (is : List Ins) (ρ : Nat → V) : runI D L (i :: is) ρ = if (exec D L ρ i).isSome = true then runI D L is (upd ρ ((exec D L ρ i).getD [])) else none := by
  rw [runI]
  cases exec D L ρ i <;> rfl
def Out.st : Out → Nat → V
  | .norm ρ => ρ
  | .exit _ ρ => ρ
  | .ret ρ => ρ
def normB : Option Out → Bool
  | some (.norm _) => true
  | _ => false
def stOf (o : Option Out) : Nat → V := match o with | some o => o.st | none => args0 []
theorem normB_norm (ρ : Nat → V) : normB (some (.norm ρ)) = true := rfl
theorem normB_exit (id : Nat) (ρ : Nat → V) : normB (some (.exit id ρ)) = false := rfl
theorem normB_ret (ρ : Nat → V) : normB (some (.ret ρ)) = false := rfl
theorem stOf_norm (ρ : Nat → V) : stOf (some (.norm ρ)) = ρ := rfl
theorem stOf_exit (id : Nat) (ρ : Nat → V) : stOf (some (.exit id ρ)) = ρ := rfl
theorem stOf_ret (ρ : Nat → V) : stOf (some (.ret ρ)) = ρ := rfl
def blkO (id : Nat) : Option Out → Option Out
  | some (.norm ρ') => some (.norm ρ')
  | some (.exit id' ρ') => if id' = id then some (.norm ρ') else some (.exit id' ρ')
  | some (.ret ρ') => some (.ret ρ')
  | none => none
theorem blkO_norm (id : Nat) (ρ : Nat → V) : blkO id (some (.norm ρ)) = some (.norm ρ) := rfl
theorem blkO_exit (id id' : Nat) (ρ : Nat → V) : blkO id (some (.exit id' ρ)) = if id' = id then some (.norm ρ) else some (.exit id' ρ) := rfl
theorem blkO_ret (id : Nat) (ρ : Nat → V) : blkO id (some (.ret ρ)) = some (.ret ρ) := rfl
def boolV : V → Bool
  | .bool b => b
  | _ => false
def isBoolV : V → Bool
  | .bool _ => true
  | _ => false
def isSkV : V → Bool
  | .tup [] => true
  | _ => false
theorem runW_skip (ρ : Nat → V) : runW D L .skip ρ = some (.norm ρ) := rfl
theorem runW_reg (is : List Ins) (ρ : Nat → V) : runW D L (.reg is) ρ = (runI D L is ρ).map .norm := rfl
theorem runW_seq (a b : Ir) (ρ : Nat → V) : runW D L (.seq a b) ρ = if normB (runW D L a ρ) = true then runW D L b (stOf (runW D L a ρ)) else runW D L a ρ := by
  rw [runW]
  cases runW D L a ρ with
  | none => rfl
  | some o => cases o <;> rfl
theorem runW_cond (c : Sr) (a b : Ir) (ρ : Nat → V) : runW D L (.cond c a b) ρ = if isBoolV (ev ρ c) = true then (if boolV (ev ρ c) = true then runW D L a ρ else runW D L b ρ) else none := by
  rw [runW]
  cases ev ρ c <;> try rfl
  rename_i q
  cases q <;> rfl
theorem runW_block (id : Nat) (b : Ir) (ρ : Nat → V) : runW D L (.block id b) ρ = blkO id (runW D L b ρ) := rfl
theorem runW_exit (id : Nat) (ρ : Nat → V) : runW D L (.exit id) ρ = some (.exit id ρ) := rfl
theorem runW_ret (ρ : Nat → V) : runW D L .ret ρ = some (.ret ρ) := rfl
theorem runW_loop (k : Kil) (b : Ir) (ρ : Nat → V) : runW D L (.loop k b) ρ = loopW (runW D L b) (kilR L k) ρ := rfl
theorem runW_kil (k : Kil) (b : Ir) (ρ : Nat → V) : runW D L (.kil k b) ρ = runW D L b (kilR L k ρ) := rfl
theorem exec_none (ρ : Nat → V) (d : Option Nat) (o : Op1) : exec D L ρ ⟨d, none, o⟩ = if dstB ρ d = true then (opV D L ρ d o).map fun x => dstW x.1 d ++ x.2 else none := rfl
theorem exec_some (ρ : Nat → V) (d : Option Nat) (t : Nat) (q : Bool) (o : Op1) : exec D L ρ ⟨d, some (t, q), o⟩ = if dstB ρ d = true then (if isBoolV (ρ t) = true then (if boolV (ρ t) = q then (opV D L ρ d o).map fun x => dstW x.1 d ++ x.2 else some (dstW (.tup []) d)) else if isSkV (ρ t) = true then some (dstW (.tup []) d) else none) else none := by
  unfold exec
  dsimp only
  cases ρ t <;> try rfl
  rename_i l
  cases l <;> rfl
end
theorem outV_ret (F : FnIr) (ρ : Nat → V) : outV F (some (.ret ρ)) = retV F ρ := rfl
theorem outV_norm (F : FnIr) (ρ : Nat → V) : outV F (some (.norm ρ)) = retV F ρ := rfl
end Go.Proofs.YtmbdbkcifmkpbaaGreatDoor.Den
end
section
set_option linter.unusedVariables false
set_option linter.unnecessarySimpa false
set_option linter.unusedSimpArgs false
namespace Go.Proofs.YtmbdbkcifmkpbaaGreatDoor.Den
open Go Go.RowKit
def Wp (o : Option Out) (Q : Out → Prop) : Prop := ∃ x, o = some x ∧ Q x
def Wi (o : Option (Nat → V)) (R : (Nat → V) → Prop) : Prop := ∃ x, o = some x ∧ R x
/-- first it is so, then go on -/
def Ok (p : Prop) (P : Prop) : Prop := p ∧ P
@[congr] theorem Ok_congr {p p' : Prop} {P : Prop} (h : p = p') : Ok p P = Ok p' P := by rw [h]
theorem Ok_true (P : Prop) : Ok True P ↔ P := ⟨fun h => h.2, fun h => ⟨trivial, h⟩⟩
/-- one road or the other -/
def Br (p P Q : Prop) : Prop := (p ∧ P) ∨ (¬ p ∧ Q)
@[congr] theorem Br_congr {p p' : Prop} {P Q : Prop} (h : p = p') : Br p P Q = Br p' P Q := by rw [h]
theorem Br_true (P Q : Prop) : Br True P Q ↔ P := by simp [Br]
theorem Br_false (P Q : Prop) : Br False P Q ↔ Q := by simp [Br]
section
variable (D : Nat → List V → Option V) (L : Lay)
def seqQ (b : Ir) (Q : Out → Prop) : Out → Prop
  | .norm ρ => Wp (runW D L b ρ) Q
  | .exit id ρ => Q (.exit id ρ)
  | .ret ρ => Q (.ret ρ)
def blkQ (id : Nat) (Q : Out → Prop) : Out → Prop
  | .norm ρ => Q (.norm ρ)
  | .exit id' ρ => if id' = id then Q (.norm ρ) else Q (.exit id' ρ)
  | .ret ρ => Q (.ret ρ)
def lpQ (k : Kil) (b : Ir) (Q : Out → Prop) : Out → Prop
  | .norm ρ => Wp (runW D L (.loop k b) (kilR L k ρ)) Q
  | .exit id ρ => Q (.exit id ρ)
  | .ret ρ => Q (.ret ρ)
def nrQ (R : (Nat → V) → Prop) (Q : Out → Prop) : Out → Prop
  | .norm ρ => R ρ
  | .exit id ρ => Q (.exit id ρ)
  | .ret ρ => Q (.ret ρ)
def rtV (L : Lay) (res : List Rs) (ρ : Nat → V) : Option V := (resL ρ res).bind fun l => (shrL L ρ true l).map fun l => tupV (nmL l)
def outQ (L : Lay) (res : List Rs) (r : V) : Out → Prop
  | .norm ρ => rtV L res ρ = some r
  | .exit id ρ => False
  | .ret ρ => rtV L res ρ = some r
def rgQ (Q : Out → Prop) (ρ : Nat → V) : Prop := Q (.norm ρ)
theorem seqQ_norm (b : Ir) (Q : Out → Prop) (ρ : Nat → V) : seqQ D L b Q (.norm ρ) ↔ Wp (runW D L b ρ) Q := Iff.rfl
theorem seqQ_exit (b : Ir) (Q : Out → Prop) (id : Nat) (ρ : Nat → V) : seqQ D L b Q (.exit id ρ) ↔ Q (.exit id ρ) := Iff.rfl
theorem seqQ_ret (b : Ir) (Q : Out → Prop) (ρ : Nat → V) : seqQ D L b Q (.ret ρ) ↔ Q (.ret ρ) := Iff.rfl
theorem blkQ_norm (id : Nat) (Q : Out → Prop) (ρ : Nat → V) : blkQ id Q (.norm ρ) ↔ Q (.norm ρ) := Iff.rfl
theorem blkQ_exit (id id' : Nat) (Q : Out → Prop) (ρ : Nat → V) : blkQ id Q (.exit id' ρ) ↔ if id' = id then Q (.norm ρ) else Q (.exit id' ρ) := Iff.rfl
theorem blkQ_ret (id : Nat) (Q : Out → Prop) (ρ : Nat → V) : blkQ id Q (.ret ρ) ↔ Q (.ret ρ) := Iff.rfl
theorem nrQ_norm (R : (Nat → V) → Prop) (Q : Out → Prop) (ρ : Nat → V) : nrQ R Q (.norm ρ) ↔ R ρ := Iff.rfl
theorem nrQ_exit (R : (Nat → V) → Prop) (Q : Out → Prop) (id : Nat) (ρ : Nat → V) : nrQ R Q (.exit id ρ) ↔ Q (.exit id ρ) := Iff.rfl
theorem nrQ_ret (R : (Nat → V) → Prop) (Q : Out → Prop) (ρ : Nat → V) : nrQ R Q (.ret ρ) ↔ Q (.ret ρ) := Iff.rfl
theorem outQ_norm (L : Lay) (res : List Rs) (r : V) (ρ : Nat → V) : outQ L res r (.norm ρ) ↔ rtV L res ρ = some r := Iff.rfl
theorem outQ_ret (L : Lay) (res : List Rs) (r : V) (ρ : Nat → V) : outQ L res r (.ret ρ) ↔ rtV L res ρ = some r := Iff.rfl
theorem rgQ_at (Q : Out → Prop) (ρ : Nat → V) : rgQ Q ρ ↔ Q (.norm ρ) := Iff.rfl
theorem Wp_some (x : Out) (Q : Out → Prop) : Wp (some x) Q ↔ Q x := ⟨fun ⟨y, h, hq⟩ => by rw [Option.some.inj h]; exact hq, fun h => ⟨x, rfl, h⟩⟩
theorem Wp_skip (ρ : Nat → V) (Q : Out → Prop) : Wp (runW D L .skip ρ) Q ↔ Q (.norm ρ) := Wp_some _ _
theorem Wp_exit (id : Nat) (ρ : Nat → V) (Q : Out → Prop) : Wp (runW D L (.exit id) ρ) Q ↔ Q (.exit id ρ) := Wp_some _ _
theorem Wp_ret (ρ : Nat → V) (Q : Out → Prop) : Wp (runW D L .ret ρ) Q ↔ Q (.ret ρ) := Wp_some _ _
theorem Wp_kil (k : Kil) (b : Ir) (ρ : Nat → V) (Q : Out → Prop) : Wp (runW D L (.kil k b) ρ) Q ↔ Wp (runW D L b (kilR L k ρ)) Q := Iff.rfl
theorem Wp_dfr (t : Nat) (ρ : Nat → V) (Q : Out → Prop) : Wp (runW D L (.dfr t) ρ) Q ↔ Ok (t < L.nt ∧ dstB ρ (some t) = true) (Q (.norm (upd ρ (dstW .dead (some t))))) := by
  rw [runW]
  unfold Ok
  by_cases h : t < L.nt ∧ dstB ρ (some t) = true
  · rw [if_pos h, Wp_some]; simp [h]
  · rw [if_neg h]; simp [Wp, h]
theorem Wp_reg (is : List Ins) (ρ : Nat → V) (Q : Out → Prop) : Wp (runW D L (.reg is) ρ) Q ↔ Wi (runI D L is ρ) (rgQ Q) := by
  rw [runW_reg]
  constructor
  · rintro ⟨x, h, hq⟩
    obtain ⟨y, hy, rfl⟩ := Option.map_eq_some_iff.1 h
    exact ⟨y, hy, hq⟩
  · rintro ⟨y, hy, hq⟩
    exact ⟨.norm y, by rw [hy]; rfl, hq⟩
theorem Wi_nil (ρ : Nat → V) (R : (Nat → V) → Prop) : Wi (runI D L [] ρ) R ↔ R ρ := ⟨fun ⟨y, h, hq⟩ => by rw [Option.some.inj h]; exact hq, fun h => ⟨ρ, rfl, h⟩⟩
theorem Wi_cons (i : Ins) (is : List Ins) (ρ : Nat → V) (R : (Nat → V) → Prop) : Wi (runI D L (i :: is) ρ) R ↔ Ok ((exec D L ρ i).isSome = true) (Wi (runI D L is (upd ρ ((exec D L ρ i).getD []))) R) := by
  unfold Ok
  rw [runI]
  cases exec D L ρ i with
  | none => simp [Wi]
  | some ws => simp [Wi]
theorem Wp_seq (a b : Ir) (ρ : Nat → V) (Q : Out → Prop) : Wp (runW D L (.seq a b) ρ) Q ↔ Wp (runW D L a ρ) (seqQ D L b Q) := by
  rw [runW]
  cases runW D L a ρ with
  | none => simp [Wp]
  | some o => cases o <;> simp [Wp, seqQ]
theorem Wp_cond (c : Sr) (a b : Ir) (ρ : Nat → V) (Q : Out → Prop) : Wp (runW D L (.cond c a b) ρ) Q ↔ Ok (isBoolV (ev ρ c) = true) (Br (boolV (ev ρ c) = true) (Wp (runW D L a ρ) Q) (Wp (runW D L b ρ) Q)) := by
  unfold Ok Br
  rw [runW_cond]
  by_cases h : isBoolV (ev ρ c) = true
  · rw [if_pos h]
    by_cases h2 : boolV (ev ρ c) = true
    · rw [if_pos h2]; simp [h, h2]
    · rw [if_neg h2]; simp [h, h2]
  · rw [if_neg h]
    constructor
    · rintro ⟨x, hx, _⟩
      cases hx
    · intro x
      exact absurd x.1 h
theorem Wp_block (id : Nat) (b : Ir) (ρ : Nat → V) (Q : Out → Prop) : Wp (runW D L (.block id b) ρ) Q ↔ Wp (runW D L b ρ) (blkQ id Q) := by
  rw [runW_block]
  cases runW D L b ρ with
  | none => simp [Wp, blkO]
  | some o =>
    cases o with
    | norm ρ' => simp [Wp, blkO, blkQ]
    | exit id' ρ' =>
      by_cases h : id' = id
      · simp [Wp, blkO, blkQ, h]
      · simp [Wp, blkO, blkQ, h]
    | ret ρ' => simp [Wp, blkO, blkQ]
/-- one round of a loop -/
theorem Wp_round (k : Kil) (b : Ir) (ρ : Nat → V) (Q : Out → Prop) : Wp (runW D L (.loop k b) ρ) Q ↔ Wp (runW D L b ρ) (lpQ D L k b Q) := by
  rw [runW_loop, loopW_eq]
  cases h : runW D L b ρ with
  | none => simp [Wp]
  | some o => cases o <;> simp [Wp, lpQ, runW_loop]
theorem lpQ_norm (k : Kil) (b : Ir) (Q : Out → Prop) (ρ : Nat → V) : lpQ D L k b Q (.norm ρ) ↔ Wp (runW D L (.loop k b) (kilR L k ρ)) Q := Iff.rfl
theorem lpQ_exit (k : Kil) (b : Ir) (Q : Out → Prop) (id : Nat) (ρ : Nat → V) : lpQ D L k b Q (.exit id ρ) ↔ Q (.exit id ρ) := Iff.rfl
theorem lpQ_ret (k : Kil) (b : Ir) (Q : Out → Prop) (ρ : Nat → V) : lpQ D L k b Q (.ret ρ) ↔ Q (.ret ρ) := Iff.rfl
/-- values put into a list of registers -/
def sets (l : List V) : List (Nat × V) → List V
  | [] => l
  | (i, v) :: ws => sets (l.set i v) ws
/-- A LOOP, by what holds before each round. -/
theorem Wp_loop {α : Type} {k : Kil} {b : Ir} {Q : Out → Prop} (I : α → Nat → V) (J : α → Prop) (μ : α → Nat)
    (H : ∀ x, J x → Wp (runW D L b (I x)) (nrQ (fun ρ => ∃ y, J y ∧ μ y < μ x ∧ kilR L k ρ = I y) Q)) {ρ : Nat → V} (x : α) (hx : J x) (hρ : ρ = I x) : Wp (runW D L (.loop k b) ρ) Q := by
  subst hρ
  generalize hn : μ x = n
  induction n using Nat.strongRecOn generalizing x with
  | _ n ih =>
    rw [Wp_round]
    obtain ⟨o, ho, hq⟩ := H x hx
    refine ⟨o, ho, ?_⟩
    cases o with
    | norm ρ' =>
      obtain ⟨y, hy, hl, he⟩ := hq
      rw [lpQ_norm, he]
      exact ih (μ y) (hn ▸ hl) y hy rfl
    | exit id ρ' => exact hq
    | ret ρ' => exact hq
def nxt {α : Type} (k : Kil) (L0 : List V) (S : α → List (Nat × V)) (J : α → Prop) (μ : α → Nat) (x : α) (ρ : Nat → V) : Prop := ∃ y, J y ∧ μ y < μ x ∧ kilR L k ρ = args0 (sets L0 (S y))
theorem nxt_i {α : Type} {k : Kil} {L0 : List V} {S : α → List (Nat × V)} {J : α → Prop} {μ : α → Nat} {x : α} {ρ : Nat → V} (y : α) (h1 : J y) (h2 : μ y < μ x) (h3 : kilR L k ρ = args0 (sets L0 (S y))) : nxt L k L0 S J μ x ρ := ⟨y, h1, h2, h3⟩
theorem Wp_loopS {α : Type} {k : Kil} {b : Ir} {Q : Out → Prop} {L0 : List V} (S : α → List (Nat × V)) (J : α → Prop) (μ : α → Nat) (x : α) (hx : J x) (h0 : L0 = sets L0 (S x))
    (H : ∀ x, J x → Wp (runW D L b (args0 (sets L0 (S x)))) (nrQ (nxt L k L0 S J μ x) Q)) : Wp (runW D L (.loop k b) (args0 L0)) Q :=
  Wp_loop D L (fun x => args0 (sets L0 (S x))) J μ H x hx (by rw [← h0])
end
theorem D_wp {E : Env} {f : Nat} {F : FnIr} {args : List V} {r : V} (hp : E.prim f = none) (hF : E.fns f = some F) (hl : args.length ≤ F.L.nt) (h : Wp (runW (D E) F.L F.ir (args0 args)) (outQ F.L F.res r)) (hf : f < FR := by decide) : D E f args = some r := by
  refine D_fn hp hF hl ?_ hf
  obtain ⟨o, ho, hq⟩ := h
  rw [ho]
  cases o with
  | norm ρ => exact hq
  | exit id ρ => exact absurd hq (by simp [outQ])
  | ret ρ => exact hq
def frQ (F : FnIr) (r : V) : Out → Prop
  | .norm ρ => retFr F ρ = some r
  | .exit id ρ => False
  | .ret ρ => retFr F ρ = some r
theorem frQ_norm (F : FnIr) (r : V) (ρ : Nat → V) : frQ F r (.norm ρ) ↔ retFr F ρ = some r := Iff.rfl
theorem frQ_ret (F : FnIr) (r : V) (ρ : Nat → V) : frQ F r (.ret ρ) ↔ retFr F ρ = some r := Iff.rfl
end Go.Proofs.YtmbdbkcifmkpbaaGreatDoor.Den
end
