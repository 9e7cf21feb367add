/- Parts of the proof, joined: A range over a function: the statement's law with the loop's record in sight (for an iterator that stores into a box of its own), and a round's regions walked as anywhere. No program in sight. A great region that draws and only reads: the check of its order, cut into pieces (the kernel's memory). No program in sight. The imports of the own walks of this seat, and the sizes of the types that they make. A round's regions that draw their order, walked as anywhere: reads alone; reads before a store. No program in sight. -/
import Derived.RangeFuncNested
import Derived.RangeFuncLeaves
import Derived.WalkKit
import Derived.OwnWalkIn
import Derived.TacticsInMore
import Derived.Orders
import Derived.Deep.QuietTactic
import Derived.BigQuiet
import Derived.Test.YtejmahnbecglfaaDoorProg
import Derived.Below
import Derived.Deep.Draws
import Derived.Deep.AppendLies
import Derived.Maps.AppendAt
import Derived.OwnWalk
import Derived.Laws.BytesArg
import Derived.Laws.MakeOwn
import Derived.Laws.OwnMore
import Derived.Deep.OwnRows
import Derived.Tactics
import Derived.Lib.ConvBytes
import Derived.Laws.Slices
import Derived.KernelRfl
import Derived.RowKit3
import Derived.Deep.LoopGhost
import Derived.WideLaws
import Derived.Deep.DeepCutAuto
import Derived.Deep.CutBlock
import Derived.Deep.RegionHeld3
import Derived.Laws.Rows
import Derived.Lib.AppendStr
import Derived.ArgAppend
import Derived.Laws.IdiomCopy
import Derived.OrdersHeld
import Derived.Laws.BitsLemmas
import Derived.RowKit
import Derived.Test.YtejmahnbecglfaaDoorWWords
import Derived.Test.YtejmahnbecglfaaDoorWLast
import Derived.Test.YtejmahnbecglfaaDoorWTab
import Derived.Test.YtejmahnbecglfaaDoorWFour
import Derived.Test.YtejmahnbecglfaaDoorWQPut
import Derived.Test.YtejmahnbecglfaaDoorWApart
import Derived.Test.YtejmahnbecglfaaDoorWArr
import Derived.Test.YtejmahnbecglfaaDoorWZeros
import Derived.Test.YtejmahnbecglfaaDoorWFoot
import Derived.Test.YtejmahnbecglfaaDoorWKept
import Derived.Test.YtejmahnbecglfaaDoorWShare
import Derived.Test.YtejmahnbecglfaaDoorWN
import Derived.Test.YtejmahnbecglfaaDoorWFootNe
import Derived.Test.YtejmahnbecglfaaDoorWAt
import Derived.Test.YtejmahnbecglfaaDoorWEqStruct
import Derived.Test.YtejmahnbecglfaaDoorWRepsOne
import Derived.Test.YtejmahnbecglfaaDoorWInv
import Derived.Test.YtejmahnbecglfaaDoorWInvWords
import Derived.Test.YtejmahnbecglfaaDoorWGuard
import Derived.Test.YtejmahnbecglfaaDoorWNEv
import Derived.Test.YtejmahnbecglfaaDoorWMore
import Derived.StillTailTactics
import Derived.OrdersIn
section
set_option linter.unusedVariables false
namespace Go.Proofs.YtejmahnbecglfaaDoor.OwnRf
open Go Go.RowKit

/-- no `defer` among the operations -/
def plainOp (o : Oper) : Bool := match o.op with | .defer _ => false | _ => true
theorem plainOp_ne {o : Oper} (h : plainOp o = true) : ∀ c, o.op ≠ .defer c := by
  intro c hc; simp [plainOp, hc] at h

/-- only a normal end -/
def onlyNormal (Q : Exit → Act → World → Prop) : Exit → Act → World → Prop
  | .normal, a, w => Q .normal a w
  | _, _, _ => False

theorem not_letsOut (Q : Exit → Act → World → Prop) : ¬ LetsOut (onlyNormal Q) := by
  rintro ⟨a, w, h⟩; exact h

theorem about_wide {o : Oper} {P : Program} {w : World} {ρ : Operand → Value} {l : Nat} : ∀ f, o.about P w ρ = some f → (Fence.wide.inRound l).fn f := fun _ _ => trivial

/-- one operation in a round -/
theorem op_inRound {P : Program} {n l : Nat} {o : Oper} {a : Act} {w : World} {K : Act → World → Prop} {Q : Exit → Act → World → Prop} (hp : plainOp o = true)
    (h : o.wp P a w K (onlyNormal Q)) : o.wpIn (Fence.wide.inRound l) n P a w K Q := by
  refine ⟨about_wide, ?_⟩
  rw [Oper.semAt_eq _ _ _ (plainOp_ne hp)]
  unfold Oper.wp at h
  generalize (execOp a.eval o).run P w = r at h
  cases r with
  | ok v w' =>
    cases v with
    | value v => exact h
    | skip => exact h
    | defer d => exact h
    | enter f args =>
      refine ⟨fun hd => by simp [Fence.wide, Fence.inRound] at hd, ?_⟩
      refine CallsIn.inRound l (callsIn_wide.2 (Calls.mono h ?_))
      rintro e w2 he
      cases e with
      | returned v => exact he
      | panicked c => exact (he : False).elim
      | outgrown => exact (not_letsOut Q he).elim
    | row row args =>
      exact ⟨fun hd => by simp [Fence.wide, Fence.inRound] at hd, fun c cs _ => let ⟨v, w2, r, s⟩ := h c cs; ⟨v, w2, r, stepsIn_wide.2 s⟩⟩
    | round l f tmps x y => exact (h : False).elim
    | _ => exact (h : False).elim
  | halt hl w' => cases hl <;> exact (h : False).elim

theorem asks_onlyNormal {P : Program} {o : Oper} {a : Act} {w : World} {Q : Exit → Act → World → Prop} {A : Prop} (h : A ∨ (o.asks P a w ∧ LetsOut (onlyNormal Q))) : A :=
  h.resolve_right fun hx => not_letsOut Q hx.2

/-- a list of operations in a round -/
theorem list_inRound {P : Program} {n l : Nat} {ops : Array Oper} {Q : Exit → Act → World → Prop} : ∀ (os : List Oper), os.all plainOp = true → ∀ (a : Act) (w : World),
    wpList P ops (onlyNormal Q) os a w → wpListIn (Fence.wide.inRound l) n P ops Q os a w
  | [], _, a, w, h => h
  | o :: os, hp, a, w, h => by
    simp only [List.all_cons, Bool.and_eq_true] at hp
    unfold wpList at h
    unfold wpListIn
    split
    · rename_i hw
      rw [if_pos hw] at h
      exact op_inRound hp.1 (Oper.wp_mono (fun a w h => list_inRound os hp.2 a w h) (asks_onlyNormal h))
    · rename_i hw
      rw [if_neg hw] at h
      exact ⟨about_wide, list_inRound os hp.2 _ _ h⟩

/-- a region in a round, walked as anywhere -/
theorem region_inRound {P : Program} {n l id : Nat} {os : List Oper} {Q : Exit → Act → World → Prop} {a : Act} {w : World} (hp : os.all plainOp = true)
    (h : wpList P os.toArray (onlyNormal Q) os a w) : (Code.region id os.toArray false).wpIn (Fence.wide.inRound l) n P Q a w :=
  wpIn_region_lit (list_inRound os hp a w h)

/-- what a round's body must come to -/
def bodyPost1 (l : Nat) (rec : LoopState → Option Code → Loop) (R : Ending → World → Prop) : Exit → Act → World → Prop
  | .normal, _, W => W.heap[l]? = some (.loop (rec .busy none)) ∧ R (.returned (.bool true)) (W.putObj l (.loop (rec .ready none)))
  | .ret, _, W => W.heap[l]? = some (.loop (rec .busy none)) ∧ R (.returned (.bool false)) (W.putObj l (.loop (rec .done (some .ret))))
  | _, _, _ => False

/-- **THE STATEMENT's LAW**: the iterator is called in the world with two blocks more; it may call yield wherever the record is ready. -/
theorem rangeFunc_law {P : Program} {g : Operand} {ps : Array Tmp} {assign body : Code} {Q : Exit → Act → World → Prop} {a : Act} {w : World} {gf : Nat} {lb : Array Value}
    (hg : a.eval g = .func (.func gf) #[] lb) (eg : ∀ args w, (callFunc gf args).run P w = .ok (.enter gf args) w)
    (h : ∀ (rec : LoopState → Option Code → Loop), 
      (∀ (args : Array Value) (W : World) (R : Ending → World → Prop), args.size = ps.size → W.heap[w.heap.size + 1]? = some (.loop (rec .ready none)) →
        assign.wpIn (Fence.wide.inRound (w.heap.size + 1)) 3 P (Exit.then (fun a1 W2 => W2.heap[w.heap.size + 1]? = some (.loop (rec .ready none)) ∧
          body.wpIn (Fence.wide.inRound (w.heap.size + 1)) 3 P (bodyPost1 (w.heap.size + 1) rec R) a1 (W2.putObj (w.heap.size + 1) (.loop (rec .busy none)))) (fun _ _ _ => False))
          { tmps := (ps.zip args).foldl (fun t (p, v) => t.setIfInBounds p v) a.tmps, defers := [] } W →
        YieldAt Fence.wide 3 P (w.heap.size + 1) args W R) →
      Calls P gf (#[.func (.yield (w.heap.size + 1)) #[] #[]] ++ lb) ((w.alloc (.deferred (some []))).alloc (.loop (rec .ready none))) fun e W3 => (∃ v, e = .returned v) ∧
        ((W3.heap[w.heap.size + 1]? = some (.loop (rec .ready none)) ∧ Q .normal { a with defers := { target := .collected w.heap.size, args := #[] } :: a.defers } (W3.putObj (w.heap.size + 1) (.loop (rec .exhausted none)))) ∨
         (W3.heap[w.heap.size + 1]? = some (.loop (rec .done (some .ret))) ∧ Q .ret { a with defers := { target := .collected w.heap.size, args := #[] } :: a.defers } (W3.putObj (w.heap.size + 1) (.loop (rec .exhausted (some .ret))))))) :
    (Code.rangeFunc g ps assign body).wp P Q a w := by
  refine (wpIn_wide (n := 3)).1 (wpIn_rangeFunc ?_)
  intro fn hfn
  obtain ⟨rec, hrec⟩ : ∃ rec : LoopState → Option Code → Loop, rec = fun st pe => { state := st, pending := pe, fn, tmps := a.tmps, params := ps, assign, body, defers := w.heap.size } := ⟨_, rfl⟩
  refine ⟨w.heap.size + 1, [{ target := .collected w.heap.size, args := #[] }], (w.alloc (.deferred (some []))).alloc (.loop (rec .ready none)), { target := .fn (.func gf) lb, args := #[.func (.yield (w.heap.size + 1)) #[] #[]] }, (w.alloc (.deferred (some []))).alloc (.loop (rec .ready none)), gf,
    #[.func (.yield (w.heap.size + 1)) #[] #[]] ++ lb, (w.alloc (.deferred (some []))).alloc (.loop (rec .ready none)), ?_, ?_, ?_, ?_, fun hd => by simp [Fence.wide] at hd, ?_⟩
  · rw [hrec]; exact run_enterLoop_outer _ _ _ _ _
  · simp only [resolve, hg]
    simp [go_sem]
  · intro f' hf'; exact trivial
  · simp [invoke, go_sem, eg]
  · refine callsIn_wide.2 ((h rec ?_).mono ?_)
    · intro args W R hs hl ha
      have hy := run_yield (P := P) (args := args) hl (by rw [hrec]; exact hs)
      rw [hrec] at hy
      refine ⟨fn, _, assign, body, hy, roundIn_of_wpIn hfn ?_⟩
      refine Go.wpIn_mono ha ?_
      rintro e a1 W2 hp
      cases e with
      | normal =>
        obtain ⟨hl2, hb⟩ := hp
        refine ⟨_, run_beginRound hl2 (by rw [hrec]), ?_⟩
        rw [hrec] at hb ⊢
        refine Go.wpIn_mono hb ?_
        rintro e a3 W3 hp3
        cases e with
        | normal => exact ⟨_, _, run_endRound none hp3.1, hp3.2⟩
        | ret => exact ⟨_, _, run_endRound (some .ret) hp3.1, hp3.2⟩
        | _ => exact (hp3 : False).elim
      | _ => exact hp
    · rintro e W3 ⟨⟨v, rfl⟩, (⟨hl, hq⟩ | ⟨hl, hq⟩)⟩
      · exact ⟨none, _, by have := run_endLoop (P := P) hl (by rw [hrec]; simp); rw [hrec] at this ⊢; exact this, hq⟩
      · exact ⟨some .ret, _, by have := run_endLoop (P := P) hl (by rw [hrec]; simp); rw [hrec] at this ⊢; exact this, wpIn_ret hq⟩
end Go.Proofs.YtejmahnbecglfaaDoor.OwnRf
end
section
set_option linter.unusedVariables false
set_option linter.unusedSimpArgs false
namespace Go.Proofs.YtejmahnbecglfaaDoor.OwnLex
open Go

/-- the first k are done -/
def doneTo (N k : Nat) : Array Bool := ((List.range N).map fun j => decide (j < k)).toArray
theorem doneTo_zero (N : Nat) : doneTo N 0 = Array.replicate N false := by
  apply Array.ext_getElem?
  intro i
  by_cases h : i < N
  · simp [doneTo, Array.getElem?_replicate, h]
  · simp [doneTo, Array.getElem?_replicate, h, List.getElem?_eq_none (show (List.range N).length ≤ i by simp; omega)]
theorem doneTo_succ (N k : Nat) : (doneTo N k).setIfInBounds k true = doneTo N (k + 1) := by
  apply Array.ext_getElem?
  intro i
  by_cases h : i < N
  · by_cases hi : i = k
    · subst hi
      simp [doneTo, Array.getElem?_setIfInBounds, h]
    · simp [doneTo, Array.getElem?_setIfInBounds, h, Ne.symm hi]
      omega
  · have h1 : (doneTo N k).size ≤ i := by simp [doneTo]; omega
    have h2 : (doneTo N (k + 1)).size ≤ i := by simp [doneTo]; omega
    rw [Array.getElem?_eq_none h2, Array.getElem?_eq_none (by simpa using h1)]
/-- operation k may be taken behind the first k -/
def chk (md : Region.Mode) (ops : Array Oper) (N k : Nat) : Bool := (Region.ready md ops (doneTo N k)).contains k && Region.free md ops (doneTo N k) k
theorem lexFrom_of {md : Region.Mode} {ops : Array Oper} {N : Nat} (hl : (Region.ready md ops (doneTo N N)).isEmpty = true) : ∀ (d k : Nat), k + d = N → (∀ j, k ≤ j → j < N → chk md ops N j = true) → Region.lexFrom md ops d k (doneTo N k) = true
  | 0, k, h, _ => by
    obtain rfl : k = N := by omega
    exact hl
  | d + 1, k, h, hc => by
    have h1 := hc k (Nat.le_refl _) (by omega)
    simp only [Region.lexFrom]
    simp only [chk] at h1
    rw [h1, doneTo_succ, lexFrom_of hl d (k + 1) (by omega) (fun j hj hj2 => hc j (by omega) hj2)]
    rfl
theorem lexB_of {md : Region.Mode} {ops : Array Oper} {N : Nat} (hs : ops.size = N) (hn : Region.noSelect ops = true) (hl : (Region.ready md ops (doneTo N N)).isEmpty = true) (hc : ∀ j, j < N → chk md ops N j = true) : Region.lexB md ops = true := by
  unfold Region.lexB
  rw [hn, hs, ← doneTo_zero, lexFrom_of hl N 0 (by omega) (fun j _ hj => hc j hj)]
  rfl
theorem all_cut {p : Nat → Prop} {N : Nat} (a : Nat) (h1 : ∀ j, j < a → p j) (h2 : (∀ j, a ≤ j → j < N → p j)) : ∀ j, j < N → p j := fun j hj => by
  by_cases h : j < a
  · exact h1 j h
  · exact h2 j (by omega) hj
theorem range_cut {f : Nat → Bool} {a N : Nat} (n : Nat) (h1 : (List.range' a n).all f = true) (h2 : ∀ j, a + n ≤ j → j < N → f j = true) : ∀ j, a ≤ j → j < N → f j = true := fun j ha hj => by
  by_cases h : j < a + n
  · rw [List.all_eq_true] at h1
    exact h1 j (by rw [List.mem_range']; exact ⟨j - a, by omega, by omega⟩)
  · exact h2 j (by omega) hj
theorem range_end {f : Nat → Bool} {a N : Nat} (n : Nat) (hN : a + n = N) (h1 : (List.range' a n).all f = true) : ∀ j, a ≤ j → j < N → f j = true :=
  range_cut n h1 (fun j h1 h2 => by omega)
end Go.Proofs.YtejmahnbecglfaaDoor.OwnLex
end
section
set_option linter.unusedVariables false
namespace Go.Proofs.YtejmahnbecglfaaDoor.OwnA
open Go.RowKit Go.Proofs.YtejmahnbecglfaaDoorW.PrintWords Go.Proofs.YtejmahnbecglfaaDoorW.PrintLast Go.Proofs.YtejmahnbecglfaaDoorW.PrintMore
theorem info38 : (Tryd.prog.info? 38).map (fun i => (i.zero, i.size, i.bytes)) = some (some (.int .u64 0), 1, 8) := by kernel_rfl
theorem ww {x : Int} (h0 : -9223372036854775808 ≤ x) (h1 : x ≤ 9223372036854775807) : wrap64 x = x := by unfold wrap64; omega
/-- limbs -/
def u64s (l : List Int) : Prop := ∀ y ∈ l, 0 ≤ y ∧ y < 18446744073709551616
theorem u64s_rd {l : List Int} (h : u64s l) (i : Nat) : 0 ≤ rd l i ∧ rd l i < 18446744073709551616 := by
  unfold rd
  rw [Int.toNat_natCast, List.getD_eq_getElem?_getD]
  cases hx : l[i]? with
  | none => simp
  | some y => exact h y (List.mem_of_getElem? hx)

section
variable {P : Program} {ops : Array Oper} {Q : Exit → Act → World → Prop} {o : Oper} {rest : List Oper} {a : Act} {α : Type}
/-- make([]T, n, m): a row of n, in a block of m. -/
theorem R_make2 (d : Kd α) {w0 W : World} (base e : Nat) (hgd : o.guard = none) {N : Tmp} (hd : o.dst = some N) (t : TypeId) (x y : Operand) (ho : o.op = .makeSlice t x y) (n m : Int) (hx : a.eval x = .int .i64 n) (hy : a.eval y = .int .i64 m)
    (ht : P.underlying t = some (.slice e)) (z : Value) (bytes : Nat) (hinfo : (P.info? e).map (fun i => (i.zero, i.size, i.bytes)) = some (some z, d.sz, bytes)) (hz : z.cells.size = d.sz) (hs0 : 0 < d.sz) (hb0 : 0 < bytes)
    (z0 : α) {ok okp : Nat → Prop} (hzero : d.M W base okp z0 z.cells.toList) (hok : ∀ k, okp k → ok k) (hfresh : ok W.heap.size) (h0 : 0 ≤ n) (hnm : n ≤ m) (hl : m.toNat * bytes ≤ 281474976710656) (HB : Below base w0 W) (hbase : base ≤ W.heap.size)
    (h : ∀ v1 w1, d.R e w1 base ok v1 (List.replicate n.toNat z0) → Below base w0 w1 → wpList P ops Q rest (a.put o.dst v1) w1) : wpList P ops Q (o :: rest) a W := by
  obtain ⟨m, rfl⟩ := Int.eq_ofNat_of_zero_le (show 0 ≤ m by omega)
  obtain ⟨n, rfl⟩ := Int.eq_ofNat_of_zero_le h0
  simp only [Int.toNat_natCast] at hl h
  obtain ⟨i0, hi, hzz⟩ := Option.map_eq_some_iff.1 hinfo
  simp only [Prod.mk.injEq] at hzz
  obtain ⟨hz0, hz1, hz2⟩ := hzz
  have hm : m ≤ 281474976710656 := Nat.le_trans (Nat.le_mul_of_pos_right _ hb0) hl
  have hr := run_make (P := P) W t e i0 z ht hi hz0 .i64 .i64 (n : Int) (m : Int) (by omega) (by omega)
    (by
      have h3 : ((i0.bytes * m : Nat) : Int) ≤ 281474976710656 := by rw [hz2, Nat.mul_comm]; omega
      rwa [Int.natCast_mul] at h3) (by omega)
  simp only [Int.toNat_natCast] at hr
  rw [hz1] at hr
  have hrep := Kd.reps_made (R := d.M W base okp) hz hs0 hzero m
  have hfull : d.R e (W.alloc (.cells (madeCells z.cells (m * d.sz)) e)) base ok (.slice (some ⟨W.heap.size, 0, none⟩) m m) (List.replicate m z0) := by
    refine ⟨fun k hk => ?_, (madeCells z.cells (m * d.sz)).toList, ?_, ?_⟩
    · have : W.heap.size = k := by simpa [Value.ownBlock] using hk
      subst this
      exact hfresh
    · have h2 := World.ownsRow_lit (base := base) (e := e) (size := d.sz) W (madeCells z.cells (m * d.sz)) m hbase (by simp [maxLen]; omega) (by simp [size_madeCells])
      simpa using h2
    · refine hrep.imp_ (fun p c hp => d.M_mono (fun k hk => ⟨hok k hk.1, fun he => ?_⟩) (Kd.M_below (d.M_bound hp) (below_alloc (Below.refl _ _) _)))
      have h3 : k = W.heap.size := by simpa [Value.ownBlock] using he
      have := hk.2.2.1
      omega
  have hcut := Kd.R_take hfull (m := n) (by simp; omega)
  rw [List.take_replicate, Nat.min_eq_left (by omega)] at hcut
  refine Kd.event_run (v := .slice (some ⟨W.heap.size, 0, none⟩) n m) hgd ?_ (h _ _ hcut (HB.alloc hbase _))
  simp [execOp, ho, hx, hy, hr]
end
end Go.Proofs.YtejmahnbecglfaaDoor.OwnA
end
section
set_option linter.unusedVariables false
namespace Go.Proofs.YtejmahnbecglfaaDoor.OwnRf
open Go Go.RowKit

theorem wpOp_inRound {P : Program} {n l i : Nat} {ops : Array Oper} {Q : Exit → Act → World → Prop} {K K' : Act → World → Prop} {a : Act} {w : World} (hp : ∀ o, ops[i]? = some o → plainOp o = true)
    (hK : ∀ a w, K a w → K' a w) (h : wpOp P ops (onlyNormal Q) i K a w) : wpOpIn (Fence.wide.inRound l) n P ops Q i K' a w := by
  unfold wpOp at h
  unfold wpOpIn
  split at h
  · rename_i ho; simp only [ho]; exact hK _ _ h
  · rename_i o ho
    simp only [ho]
    split at h
    · rename_i hw
      rw [if_pos hw]
      exact op_inRound (hp o ho) (Oper.wp_mono hK (asks_onlyNormal h))
    · rename_i hw
      rw [if_neg hw]
      exact ⟨about_wide, hK _ _ h⟩
theorem any_inRound {P : Program} {md : Region.Mode} {n l : Nat} {ops : Array Oper} {Q : Exit → Act → World → Prop} (hp : ∀ (i : Nat) (o : Oper), ops[i]? = some o → plainOp o = true) :
    ∀ (fuel : Nat) (listed : Array Bool) (a : Act) (w : World), wpAny P md ops (onlyNormal Q) fuel listed a w → wpAnyIn (Fence.wide.inRound l) n P md ops Q fuel listed a w
  | 0, _, _, _, h => h
  | fuel + 1, _, _, _, h => ⟨h.1, fun i hi => wpOp_inRound (hp i) (fun a w => any_inRound hp fuel _ a w) (h.2 i hi)⟩
theorem plain_all {l : List Oper} (hp : l.all plainOp = true) : ∀ (i : Nat) (o : Oper), l.toArray[i]? = some o → plainOp o = true := fun i o h => by
  have h2 : l[i]? = some o := by simpa using h
  exact List.all_eq_true.1 hp o (List.mem_of_getElem? h2)

/-- reads alone -/
theorem still_inRound {P : Program} {n r id : Nat} {Q : Exit → Act → World → Prop} {a : Act} {w : World} {l : List Oper} (hm : P.follows .mixedOrders = true) (hB : Region.lexB .any l.toArray = true) (hp : l.all plainOp = true)
    (h : wpStill P l.toArray { w with drawn := w.drawn + 1 } (fun a' => Q .normal a' { w with drawn := w.drawn + 1 }) l a) : (Code.region id l.toArray true).wpIn (Fence.wide.inRound r) n P Q a w := by
  simp only [Region.lexB, Bool.and_eq_true] at hB
  refine wpIn_region_any hm (any_inRound (plain_all hp) _ _ _ _ (wpAny_of_still (Q' := onlyNormal Q) (Q := fun a' => Q .normal a' { w with drawn := w.drawn + 1 }) (fun _ h => h) _ _ _ ?_))
  have := wpAnyS_lex (md := .any) hB.1 l.toArray.toList 0 (Array.replicate l.toArray.size false) a (by simp) (by simpa using hB.2) (by simpa using h)
  simpa using this
/-- reads, and then what is in one order -/
theorem still_tail_inRound {P : Program} {k r id : Nat} {Q : Exit → Act → World → Prop} {a : Act} {w : World} {l : List Oper} (n : Nat) (hm : P.follows .mixedOrders = true) (hB : Region.lexTailB .any l.toArray n = true) (hp : l.all plainOp = true)
    (h : wpStill P l.toArray { w with drawn := w.drawn + 1 } (fun a' => wpList P l.toArray (onlyNormal Q) (l.drop n) a' { w with drawn := w.drawn + 1 }) (l.take n) a) : (Code.region id l.toArray true).wpIn (Fence.wide.inRound r) k P Q a w := by
  simp only [Region.lexTailB, Bool.and_eq_true, decide_eq_true_eq] at hB
  obtain ⟨⟨⟨⟨hsel, hn⟩, hs⟩, hc⟩, hlex⟩ := hB
  have hn' : n < l.length := by simpa using hn
  have htl : (l.take n).length = n := by simp; omega
  have hdl : (l.drop n).length = l.toArray.size - n := by simp
  have inv0 : HeadInv .any l.toArray n (Array.replicate l.toArray.size false) :=
    ⟨by simp, fun j oj _ hl => (by rw [getD_replicate_false] at hl; cases hl), fun t _ ht => getD_in (by simpa using ht) (getD_replicate_false _ _)⟩
  have H := wpAnyL_lex (md := .any) (g := l.toArray.size - n) hsel hs hc hn (l.take n) 0 _ a (fun j hj => by
    have hj' : j < n := by rw [htl] at hj; exact hj
    simp [hj']) (by simpa using htl) inv0 (by rw [htl]; exact hlex) h
  refine wpIn_region_any hm (any_inRound (plain_all hp) _ _ _ _ ?_)
  have := wpAny_of_head (Q' := onlyNormal Q) (g := l.toArray.size - n) (fun listed a' hL => by
    have := wpAny_of_seq (md := .any) (Q' := onlyNormal Q) (l.drop n) n listed a' { w with drawn := w.drawn + 1 } (fun j => by simp [List.getElem?_drop]) (by rw [hdl]; exact hL.1) hL.2
    rwa [hdl] at this) _ _ _ H
  rw [htl, show n + (l.toArray.size - n) = l.toArray.size by omega] at this
  exact this
end Go.Proofs.YtejmahnbecglfaaDoor.OwnRf
end
