/- A range over a function: the statement's law with the loop's record in sight (for an iterator that stores into a box of its own), and a round's regions walked as anywhere. No program in sight. -/
import Derived.RangeFuncNested
import Derived.RangeFuncLeaves
import Derived.WalkKit
import Derived.OwnWalkIn
import Derived.TacticsInMore
import Derived.Orders
set_option linter.unusedVariables false
namespace Go.Proofs.Ythmakmmfbdmdfaa.OwnRf
open Go Go.RowKit

/-- no `defer` among the operations -/
def plainOp (o : Oper) : Bool := match o.op with | .defer _ => false | _ => true
theorem plainOp_ne {o : Oper} (h : plainOp o = true) : ∀ c, o.op ≠ .defer c := by
  intro c hc; simp [plainOp, hc] at h

/-- only a normal end -/
def onlyNormal (Q : Exit → Act → World → Prop) : Exit → Act → World → Prop
  | .normal, a, w => Q .normal a w
  | _, _, _ => False

theorem not_letsOut (Q : Exit → Act → World → Prop) : ¬ LetsOut (onlyNormal Q) := by
  rintro ⟨a, w, h⟩; exact h

theorem about_wide {o : Oper} {P : Program} {w : World} {ρ : Operand → Value} {l : Nat} : ∀ f, o.about P w ρ = some f → (Fence.wide.inRound l).fn f := fun _ _ => trivial

/-- one operation in a round -/
theorem op_inRound {P : Program} {n l : Nat} {o : Oper} {a : Act} {w : World} {K : Act → World → Prop} {Q : Exit → Act → World → Prop} (hp : plainOp o = true)
    (h : o.wp P a w K (onlyNormal Q)) : o.wpIn (Fence.wide.inRound l) n P a w K Q := by
  refine ⟨about_wide, ?_⟩
  rw [Oper.semAt_eq _ _ _ (plainOp_ne hp)]
  unfold Oper.wp at h
  generalize (execOp a.eval o).run P w = r at h
  cases r with
  | ok v w' =>
    cases v with
    | value v => exact h
    | skip => exact h
    | defer d => exact h
    | enter f args =>
      refine ⟨fun hd => by simp [Fence.wide, Fence.inRound] at hd, ?_⟩
      refine CallsIn.inRound l (callsIn_wide.2 (Calls.mono h ?_))
      rintro e w2 he
      cases e with
      | returned v => exact he
      | panicked c => exact (he : False).elim
      | outgrown => exact (not_letsOut Q he).elim
    | row row args =>
      exact ⟨fun hd => by simp [Fence.wide, Fence.inRound] at hd, fun c cs _ => let ⟨v, w2, r, s⟩ := h c cs; ⟨v, w2, r, stepsIn_wide.2 s⟩⟩
    | round l f tmps x y => exact (h : False).elim
    | _ => exact (h : False).elim
  | halt hl w' => cases hl <;> exact (h : False).elim

theorem asks_onlyNormal {P : Program} {o : Oper} {a : Act} {w : World} {Q : Exit → Act → World → Prop} {A : Prop} (h : A ∨ (o.asks P a w ∧ LetsOut (onlyNormal Q))) : A :=
  h.resolve_right fun hx => not_letsOut Q hx.2

/-- a list of operations in a round -/
theorem list_inRound {P : Program} {n l : Nat} {ops : Array Oper} {Q : Exit → Act → World → Prop} : ∀ (os : List Oper), os.all plainOp = true → ∀ (a : Act) (w : World),
    wpList P ops (onlyNormal Q) os a w → wpListIn (Fence.wide.inRound l) n P ops Q os a w
  | [], _, a, w, h => h
  | o :: os, hp, a, w, h => by
    simp only [List.all_cons, Bool.and_eq_true] at hp
    unfold wpList at h
    unfold wpListIn
    split
    · rename_i hw
      rw [if_pos hw] at h
      exact op_inRound hp.1 (Oper.wp_mono (fun a w h => list_inRound os hp.2 a w h) (asks_onlyNormal h))
    · rename_i hw
      rw [if_neg hw] at h
      exact ⟨about_wide, list_inRound os hp.2 _ _ h⟩

/-- a region in a round, walked as anywhere -/
theorem region_inRound {P : Program} {n l id : Nat} {os : List Oper} {Q : Exit → Act → World → Prop} {a : Act} {w : World} (hp : os.all plainOp = true)
    (h : wpList P os.toArray (onlyNormal Q) os a w) : (Code.region id os.toArray false).wpIn (Fence.wide.inRound l) n P Q a w :=
  wpIn_region_lit (list_inRound os hp a w h)

/-- what a round's body must come to -/
def bodyPost1 (l : Nat) (rec : LoopState → Option Code → Loop) (R : Ending → World → Prop) : Exit → Act → World → Prop
  | .normal, _, W => W.heap[l]? = some (.loop (rec .busy none)) ∧ R (.returned (.bool true)) (W.putObj l (.loop (rec .ready none)))
  | .ret, _, W => W.heap[l]? = some (.loop (rec .busy none)) ∧ R (.returned (.bool false)) (W.putObj l (.loop (rec .done (some .ret))))
  | _, _, _ => False

/-- **THE STATEMENT's LAW**: the iterator is called in the world with two blocks more; it may call yield wherever the record is ready. -/
theorem rangeFunc_law {P : Program} {g : Operand} {ps : Array Tmp} {assign body : Code} {Q : Exit → Act → World → Prop} {a : Act} {w : World} {gf : Nat} {lb : Array Value}
    (hg : a.eval g = .func (.func gf) #[] lb) (eg : ∀ args w, (callFunc gf args).run P w = .ok (.enter gf args) w)
    (h : ∀ (rec : LoopState → Option Code → Loop), 
      (∀ (args : Array Value) (W : World) (R : Ending → World → Prop), args.size = ps.size → W.heap[w.heap.size + 1]? = some (.loop (rec .ready none)) →
        assign.wpIn (Fence.wide.inRound (w.heap.size + 1)) 3 P (Exit.then (fun a1 W2 => W2.heap[w.heap.size + 1]? = some (.loop (rec .ready none)) ∧
          body.wpIn (Fence.wide.inRound (w.heap.size + 1)) 3 P (bodyPost1 (w.heap.size + 1) rec R) a1 (W2.putObj (w.heap.size + 1) (.loop (rec .busy none)))) (fun _ _ _ => False))
          { tmps := (ps.zip args).foldl (fun t (p, v) => t.setIfInBounds p v) a.tmps, defers := [] } W →
        YieldAt Fence.wide 3 P (w.heap.size + 1) args W R) →
      Calls P gf (#[.func (.yield (w.heap.size + 1)) #[] #[]] ++ lb) ((w.alloc (.deferred (some []))).alloc (.loop (rec .ready none))) fun e W3 => (∃ v, e = .returned v) ∧
        ((W3.heap[w.heap.size + 1]? = some (.loop (rec .ready none)) ∧ Q .normal { a with defers := { target := .collected w.heap.size, args := #[] } :: a.defers } (W3.putObj (w.heap.size + 1) (.loop (rec .exhausted none)))) ∨
         (W3.heap[w.heap.size + 1]? = some (.loop (rec .done (some .ret))) ∧ Q .ret { a with defers := { target := .collected w.heap.size, args := #[] } :: a.defers } (W3.putObj (w.heap.size + 1) (.loop (rec .exhausted (some .ret))))))) :
    (Code.rangeFunc g ps assign body).wp P Q a w := by
  refine (wpIn_wide (n := 3)).1 (wpIn_rangeFunc ?_)
  intro fn hfn
  obtain ⟨rec, hrec⟩ : ∃ rec : LoopState → Option Code → Loop, rec = fun st pe => { state := st, pending := pe, fn, tmps := a.tmps, params := ps, assign, body, defers := w.heap.size } := ⟨_, rfl⟩
  refine ⟨w.heap.size + 1, [{ target := .collected w.heap.size, args := #[] }], (w.alloc (.deferred (some []))).alloc (.loop (rec .ready none)), { target := .fn (.func gf) lb, args := #[.func (.yield (w.heap.size + 1)) #[] #[]] }, (w.alloc (.deferred (some []))).alloc (.loop (rec .ready none)), gf,
    #[.func (.yield (w.heap.size + 1)) #[] #[]] ++ lb, (w.alloc (.deferred (some []))).alloc (.loop (rec .ready none)), ?_, ?_, ?_, ?_, fun hd => by simp [Fence.wide] at hd, ?_⟩
  · rw [hrec]; exact run_enterLoop_outer _ _ _ _ _
  · simp only [resolve, hg]
    simp [go_sem]
  · intro f' hf'; exact trivial
  · simp [invoke, go_sem, eg]
  · refine callsIn_wide.2 ((h rec ?_).mono ?_)
    · intro args W R hs hl ha
      have hy := run_yield (P := P) (args := args) hl (by rw [hrec]; exact hs)
      rw [hrec] at hy
      refine ⟨fn, _, assign, body, hy, roundIn_of_wpIn hfn ?_⟩
      refine Go.wpIn_mono ha ?_
      rintro e a1 W2 hp
      cases e with
      | normal =>
        obtain ⟨hl2, hb⟩ := hp
        refine ⟨_, run_beginRound hl2 (by rw [hrec]), ?_⟩
        rw [hrec] at hb ⊢
        refine Go.wpIn_mono hb ?_
        rintro e a3 W3 hp3
        cases e with
        | normal => exact ⟨_, _, run_endRound none hp3.1, hp3.2⟩
        | ret => exact ⟨_, _, run_endRound (some .ret) hp3.1, hp3.2⟩
        | _ => exact (hp3 : False).elim
      | _ => exact hp
    · rintro e W3 ⟨⟨v, rfl⟩, (⟨hl, hq⟩ | ⟨hl, hq⟩)⟩
      · exact ⟨none, _, by have := run_endLoop (P := P) hl (by rw [hrec]; simp); rw [hrec] at this ⊢; exact this, hq⟩
      · exact ⟨some .ret, _, by have := run_endLoop (P := P) hl (by rw [hrec]; simp); rw [hrec] at this ⊢; exact this, wpIn_ret hq⟩
end Go.Proofs.Ythmakmmfbdmdfaa.OwnRf
