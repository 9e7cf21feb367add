/- Parts of the proof, joined: Abstract values, and what they stand for in a world. Abstract operations: what they read, what they write, what they yield. Abstract operations in any order: one walk of the lexical order serves every order. What an abstract state stands for. Operations of the program and abstract ones: which stands for which; each that leaves memory alone, carried out. Operations that leave memory alone, carried out. Operations that leave memory alone, together. Operations on memory: new variables, stores, structs, slice literals. Slice literals, arrays of one's own, append. Append and calls. Calls. An operat -/
import Derived.Below
import Derived.Orders
import Derived.Maps.AppendAt
import Derived.ArgAppend
import Derived.Laws.MakeOwn
import Derived.Defers
import Derived.Deep.MidRow
import Derived.Laws.Slices
import Derived.Great.BuildSlice
section
set_option linter.unusedVariables false
namespace Go.Proofs.YtmbdbkcifmkpbaaGreatDoor.Den
open Go Go.RowKit

/-- An abstract value. -/
inductive V where
  | dead
  | bool (b : Bool)
  | int (k : IntKind) (n : Int)
  | fn (f : Nat)
  | str (s : ByteArray)
  | nil0
  | lst (l : List V)
  | agg (l : List V)
  | tup (l : List V)
  | own (k n : Nat)
  | ptr (id off : Nat)
  | ept (l : List V) (i off : Nat)
  | epo (k n i off : Nat)
  | arr (q : Bool) (sz ty : Nat) (l : List V)
  deriving Inhabited

/-- one cell, that may be stored -/
def cellB : V → Bool
  | .bool _ | .int _ _ | .fn _ | .str _ | .nil0 | .lst _ | .own _ _ => true
  | _ => false
abbrev big : Nat := 9223372036854775807

mutual
/-- A value without memory of its own, in cells: what it leads to lies outside the hot blocks. -/
def relP (hot : Nat → Prop) (w : World) : V → List Value → Prop
  | .bool b, us => us = [.bool b]
  | .int k n, us => us = [.int k n]
  | .fn f, us => us = [.func (.func f) #[] #[]]
  | .str s, us => us = [.string s]
  | .nil0, us => us = [.slice none 0 0]
  | .lst l, us => ∃ A c, us = [.slice A l.length c] ∧ l.length ≤ c ∧ l.length ≤ big ∧
      (l = [] ∨ ∃ b o sz, A = some ⟨b, o, none⟩ ∧ 0 < sz ∧ ¬ hot b ∧ relRow hot w b o sz 0 l)
  | .agg l, us => relPL hot w l us
  | .dead, _ => False
  | .tup _, _ => False
  | .own _ _, _ => False
  | .ptr _ _, _ => False
  | .ept _ _ _, _ => False
  | .epo _ _ _ _, _ => False
  | .arr _ _ _ _, _ => False
def relPL (hot : Nat → Prop) (w : World) : List V → List Value → Prop
  | [], us => us = []
  | v :: l, us => ∃ u us', us = u :: us' ∧ cellB v = true ∧ relP hot w v [u] ∧ relPL hot w l us'
def relRow (hot : Nat → Prop) (w : World) (b o sz : Nat) : Nat → List V → Prop
  | _, [] => True
  | i, v :: l => (∃ us, us.length = sz ∧ relP hot w v us ∧ ∀ j u, us[j]? = some u → w.cell? ⟨b, o + i * sz + j, none⟩ = some u) ∧ relRow hot w b o sz (i + 1) l
end

/-- What is known of an array of one's own. -/
structure ArrC where
  v : Value
  n : Nat
  sz : Nat
  ty : TypeId
  mu : Bool
structure Ctx where
  ext : Nat → Prop
  loc : Nat → Option Nat
  arr : Nat → Option ArrC
/-- Blocks that may yet be written. -/
def Ctx.hot (C : Ctx) (b : Nat) : Prop := C.ext b ∨ (∃ id, C.loc id = some b) ∨ ∃ k x, C.arr k = some x ∧ x.mu = true ∧ x.v.ownBlock = some b

mutual
def Rel (C : Ctx) (w : World) : V → Value → Prop
  | .dead, _ => True
  | .own k n, u => ∃ x, C.arr k = some x ∧ n ≤ x.n ∧ u.oneCell' = true ∧ (n = x.n → u = x.v)
  | .ptr id off, u => ∃ b, C.loc id = some b ∧ u = .pointer (some ⟨b, off, none⟩)
  | .ept l i off, u => ∃ b o sz, 0 < sz ∧ ¬ C.hot b ∧ relRow C.hot w b o sz 0 l ∧ i < l.length ∧ u = .pointer (some ⟨b, o + i * sz + off, none⟩)
  | .epo k n i off, u => ∃ x, C.arr k = some x ∧ n ≤ x.n ∧ (n = x.n → i < n ∧ ∃ g, x.v.ownBlock = some g ∧ u = .pointer (some ⟨g, i * x.sz + off, none⟩))
  | .agg l, u => ∃ us : List Value, u = .agg us.toArray ∧ RelL C w l us
  | .tup l, u => ∃ us : List Value, u = .tuple us.toArray ∧ RelL C w l us
  | .arr _ _ _ _, _ => False
  | .bool b, u => u = .bool b
  | .int k n, u => u = .int k n
  | .fn f, u => u = .func (.func f) #[] #[]
  | .str s, u => u = .string s
  | .nil0, u => u = .slice none 0 0
  | .lst l, u => relP C.hot w (.lst l) [u]
def RelL (C : Ctx) (w : World) : List V → List Value → Prop
  | [], us => us = []
  | v :: l, us => ∃ u us', us = u :: us' ∧ Rel C w v u ∧ RelL C w l us'
end

/-! ### what holds in a world holds later -/
mutual
theorem relP_mono {hot hot' : Nat → Prop} {w w' : World} (H : ∀ b, b < w.heap.size → ¬ hot b → ¬ hot' b ∧ w'.heap[b]? = w.heap[b]?) :
    ∀ (v : V) (us : List Value), relP hot w v us → relP hot' w' v us
  | .bool b, us, h => h
  | .int k n, us, h => h
  | .fn f, us, h => h
  | .str s, us, h => h
  | .nil0, us, h => h
  | .lst l, us, h => by
    unfold relP at h ⊢
    obtain ⟨A, c, e, h1, h2, h3⟩ := h
    refine ⟨A, c, e, h1, h2, ?_⟩
    rcases h3 with h3 | ⟨b, o, sz, eA, hs, hh, hr⟩
    · exact .inl h3
    · cases l with
      | nil => exact .inl rfl
      | cons v l =>
        have hb : b < w.heap.size := by
          unfold relRow at hr
          obtain ⟨⟨us', hl, _, hc⟩, _⟩ := hr
          obtain ⟨u, hu⟩ : ∃ u, us'[0]? = some u := ⟨us'[0], List.getElem?_eq_getElem (by omega)⟩
          exact World.block_lt_of_cell? w _ (hc 0 u hu)
        exact .inr ⟨b, o, sz, eA, hs, (H b hb hh).1, relRow_mono H b o sz hh (v :: l) 0 hr⟩
  | .agg l, us, h => by unfold relP at h ⊢; exact relPL_mono H l us h
  | .dead, us, h => h.elim
  | .tup _, us, h => h.elim
  | .own _ _, us, h => h.elim
  | .ptr _ _, us, h => h.elim
  | .ept _ _ _, us, h => h.elim
  | .epo _ _ _ _, us, h => h.elim
  | .arr _ _ _ _, us, h => h.elim
theorem relPL_mono {hot hot' : Nat → Prop} {w w' : World} (H : ∀ b, b < w.heap.size → ¬ hot b → ¬ hot' b ∧ w'.heap[b]? = w.heap[b]?) :
    ∀ (l : List V) (us : List Value), relPL hot w l us → relPL hot' w' l us
  | [], us, h => h
  | v :: l, us, h => by
    unfold relPL at h ⊢
    obtain ⟨u, us', e, h0, h1, h2⟩ := h
    exact ⟨u, us', e, h0, relP_mono H v _ h1, relPL_mono H l _ h2⟩
theorem relRow_mono {hot hot' : Nat → Prop} {w w' : World} (H : ∀ b, b < w.heap.size → ¬ hot b → ¬ hot' b ∧ w'.heap[b]? = w.heap[b]?) (b o sz : Nat) (hb : ¬ hot b) :
    ∀ (l : List V) (i : Nat), relRow hot w b o sz i l → relRow hot' w' b o sz i l
  | [], i, h => by unfold relRow; trivial
  | v :: l, i, h => by
    unfold relRow at h ⊢
    obtain ⟨⟨us, h1, h2, h3⟩, h4⟩ := h
    refine ⟨⟨us, h1, relP_mono H v _ h2, fun j u hj => ?_⟩, relRow_mono H b o sz hb l (i + 1) h4⟩
    have hc := h3 j u hj
    have hlt := World.block_lt_of_cell? w _ hc
    exact (World.cell?_of_block (w := w) (w' := w') (a := ⟨b, o + i * sz + j, none⟩) (H b hlt hb).2).trans hc
end

structure Le (C : Ctx) (w : World) (C' : Ctx) (w' : World) : Prop where
  loc : ∀ id b, C.loc id = some b → C'.loc id = some b
  arr : ∀ k x, C.arr k = some x → ∃ x', C'.arr k = some x' ∧ x.n ≤ x'.n ∧ x'.sz = x.sz ∧ (x.n = x'.n → x'.v = x.v)
  cold : ∀ b, b < w.heap.size → ¬ C.hot b → ¬ C'.hot b ∧ w'.heap[b]? = w.heap[b]?

mutual
theorem Rel_mono {C C' : Ctx} {w w' : World} (H : Le C w C' w') : ∀ (v : V) (u : Value), Rel C w v u → Rel C' w' v u
  | .dead, u, h => by unfold Rel; trivial
  | .own k n, u, h => by
    unfold Rel at h ⊢
    obtain ⟨x, hx, h1, h0, h2⟩ := h
    obtain ⟨x', hx', h3, h4, h5⟩ := H.arr k x hx
    exact ⟨x', hx', by omega, h0, fun e => by rw [h5 (by omega)]; exact h2 (by omega)⟩
  | .ptr id off, u, h => by
    unfold Rel at h ⊢
    obtain ⟨b, hb, e⟩ := h
    exact ⟨b, H.loc _ _ hb, e⟩
  | .ept l i off, u, h => by
    unfold Rel at h ⊢
    obtain ⟨b, o, sz, h0, h1, h2, h3, h4⟩ := h
    have hb : b < w.heap.size := by
      cases l with
      | nil => simp at h3
      | cons v l =>
        unfold relRow at h2
        obtain ⟨⟨us', hl, _, hc⟩, _⟩ := h2
        obtain ⟨u, hu⟩ : ∃ u, us'[0]? = some u := ⟨us'[0], List.getElem?_eq_getElem (by omega)⟩
        exact World.block_lt_of_cell? w _ (hc 0 u hu)
    exact ⟨b, o, sz, h0, (H.cold b hb h1).1, relRow_mono H.cold b o sz h1 l 0 h2, h3, h4⟩
  | .epo k n i off, u, h => by
    unfold Rel at h ⊢
    obtain ⟨x, hx, h1, h2⟩ := h
    obtain ⟨x', hx', h3, h4, h5⟩ := H.arr k x hx
    exact ⟨x', hx', by omega, fun e => by rw [h5 (by omega), h4]; exact h2 (by omega)⟩
  | .agg l, u, h => by
    unfold Rel at h ⊢
    obtain ⟨us, e, h⟩ := h
    exact ⟨us, e, RelL_mono H l us h⟩
  | .tup l, u, h => by
    unfold Rel at h ⊢
    obtain ⟨us, e, h⟩ := h
    exact ⟨us, e, RelL_mono H l us h⟩
  | .arr _ _ _ _, u, h => by unfold Rel at h; exact h.elim
  | .bool b, u, h => by unfold Rel at h ⊢; exact h
  | .int k n, u, h => by unfold Rel at h ⊢; exact h
  | .fn f, u, h => by unfold Rel at h ⊢; exact h
  | .str s, u, h => by unfold Rel at h ⊢; exact h
  | .nil0, u, h => by unfold Rel at h ⊢; exact h
  | .lst l, u, h => by unfold Rel at h ⊢; exact relP_mono H.cold _ _ h
theorem RelL_mono {C C' : Ctx} {w w' : World} (H : Le C w C' w') : ∀ (l : List V) (us : List Value), RelL C w l us → RelL C' w' l us
  | [], us, h => by unfold RelL at h ⊢; exact h
  | v :: l, us, h => by
    unfold RelL at h ⊢
    obtain ⟨u, us', e, h1, h2⟩ := h
    exact ⟨u, us', e, Rel_mono H v u h1, RelL_mono H l us' h2⟩
end

theorem RelL_length {C : Ctx} {w : World} : ∀ (l : List V) (us : List Value), RelL C w l us → us.length = l.length
  | [], us, h => by unfold RelL at h; simp [h]
  | v :: l, us, h => by
    unfold RelL at h
    obtain ⟨u, us', rfl, _, h2⟩ := h
    simp [RelL_length l us' h2]
theorem RelL_get {C : Ctx} {w : World} : ∀ (l : List V) (us : List Value), RelL C w l us → ∀ j, j < l.length → Rel C w (l.getD j .dead) (us.getD j default)
  | [], us, h, j, hj => by simp at hj
  | v :: l, us, h, j, hj => by
    unfold RelL at h
    obtain ⟨u, us', rfl, h1, h2⟩ := h
    cases j with
    | zero => simpa using h1
    | succ j => simpa using RelL_get l us' h2 j (by simpa using hj)
theorem RelL_of {C : Ctx} {w : World} : ∀ (l : List V) (us : List Value), us.length = l.length → (∀ j, j < l.length → Rel C w (l.getD j .dead) (us.getD j default)) → RelL C w l us
  | [], us, h, _ => by unfold RelL; simpa using h
  | v :: l, [], h, _ => by simp at h
  | v :: l, u :: us, h, H => by
    unfold RelL
    refine ⟨u, us, rfl, by simpa using H 0 (by simp), RelL_of l us (by simpa using h) (fun j hj => ?_)⟩
    simpa using H (j + 1) (by simpa using hj)
end Go.Proofs.YtmbdbkcifmkpbaaGreatDoor.Den
end
section
set_option linter.unusedVariables false
namespace Go.Proofs.YtmbdbkcifmkpbaaGreatDoor.Den
open Go Go.RowKit

/-- What an operation takes. -/
inductive Sr where
  | r (t : Nat)
  | i (k : IntKind) (n : Int)
  | b (x : Bool)
  | nil
  | f (n : Nat)
  deriving Inhabited

inductive Op1 where
  | mov (x : Sr)
  | pick (c x y : Sr)
  | bin (tb : Bool) (o : BinOp) (x y : Sr)
  | un (o : UnOp) (x : Sr)
  | conv (k : IntKind) (x : Sr)
  | mm (mx : Bool) (x y : Sr)
  | len (ra : Bool) (x : Sr)
  | mk (base : Nat) (z : List V)
  | box (base n : Nat) (x : Sr)
  | fad (x : Sr) (off : Nat)
  | ld (x : Sr) (id off r n : Nat) (g : Bool)
  | st (x : Sr) (id off r n : Nat) (y : Sr)
  | lde (ra : Bool) (x : Sr) (n : Nat) (g : Bool)
  | eat (ra : Bool) (x y : Sr) (n : Nat)
  | bld (parts : List (Nat × Nat × Sr)) (z : List V)
  | bsl (n sz : Nat) (g : Bool) (parts : List (Nat × Nat × Sr)) (z : List V)
  | emp (k sz e : Nat)
  | ext (x : Sr) (j : Nat)
  | fld (x : Sr) (off n : Nat) (g : Bool)
  | idx (x y : Sr) (n len : Nat)
  | app (x y : Sr) (k sz bytes e : Nat)
  | slc (n : Nat) (x : Sr) (lo hi : Option Sr)
  | call (ra fr : Bool) (f : Nat) (args : List Sr)
  | ste (x : Sr) (g : Bool) (n : Nat) (y : Sr)
  | callf (k f : Nat) (args : List Sr)
  deriving Inhabited

structure Ins where
  d : Option Nat
  g : Option (Nat × Bool)
  o : Op1
  deriving Inhabited

/-- A function's registers: `nt` temporaries, then its variables' cells, then its arrays (from `ab` on), `nr` in all; `var`: a variable's first register and size. -/
structure Lay where
  nt : Nat
  ab : Nat
  nr : Nat
  var : List (Nat × Nat × Nat)

def ev (ρ : Nat → V) : Sr → V
  | .r t => ρ t
  | .i k n => .int k n
  | .b x => .bool x
  | .nil => .nil0
  | .f n => .fn n

def cellsV : V → List V
  | .agg l => l
  | v => [v]
def isDead : V → Bool
  | .dead => true
  | _ => false
def notSelf (d : Nat) : V → Bool
  | .ptr id _ => id != d
  | _ => true

/-- The elements of an array of one's own. -/
def ownE (L : Lay) (ρ : Nat → V) (ra : Bool) (k n : Nat) : Option (List V) :=
  if ra && decide (L.ab + k < L.nr) then match ρ (L.ab + k) with
    | .arr _ _ _ l => if n = l.length then some l else none
    | _ => none else none
/-- The elements that a slice leads to. -/
def elems (L : Lay) (ρ : Nat → V) (ra : Bool) : V → Option (List V)
  | .nil0 => some []
  | .lst l => some l
  | .own k n => ownE L ρ ra k n
  | _ => none

mutual
/-- As it may be handed on: what it leads to is nobody's own. -/
def shr (L : Lay) (ρ : Nat → V) (ra : Bool) : V → Option V
  | .bool b => some (.bool b)
  | .int k n => some (.int k n)
  | .fn f => some (.fn f)
  | .str s => some (.str s)
  | .nil0 => some .nil0
  | .lst l => some (.lst l)
  | .own k n => (ownE L ρ ra k n).map .lst
  | .agg l => (shrL L ρ ra l).map .agg
  | .dead => none
  | .tup _ => none
  | .ptr _ _ => none
  | .ept _ _ _ => none
  | .epo _ _ _ _ => none
  | .arr _ _ _ _ => none
def shrL (L : Lay) (ρ : Nat → V) (ra : Bool) : List V → Option (List V)
  | [] => some []
  | v :: l => (shr L ρ ra v).bind fun v' => (shrL L ρ ra l).map (v' :: ·)
end
mutual
/-- the arrays of one's own in a value -/
def owns : V → List Nat
  | .own k _ => [k]
  | .agg l => ownsL l
  | _ => []
def ownsL : List V → List Nat
  | [] => []
  | v :: l => owns v ++ ownsL l
end
mutual
/-- no slices -/
def noLst : V → Bool
  | .bool _ | .int _ _ | .fn _ | .str _ => true
  | .agg l => noLstL l
  | .tup l => noLstL l
  | _ => false
def noLstL : List V → Bool
  | [] => true
  | v :: l => noLst v && noLstL l
end
mutual
/-- a slice of no capacity is a slice of nothing -/
def nm : V → V
  | .nil0 => .lst []
  | .agg l => .agg (nmL l)
  | .tup l => .tup (nmL l)
  | .dead => .dead
  | .bool b => .bool b
  | .int k n => .int k n
  | .fn f => .fn f
  | .str s => .str s
  | .lst l => .lst l
  | .own k n => .own k n
  | .ptr id off => .ptr id off
  | .ept l i off => .ept l i off
  | .epo k n i off => .epo k n i off
  | .arr q s e l => .arr q s e l
def nmL : List V → List V
  | [] => []
  | v :: l => nm v :: nmL l
end
abbrev Wr := List (Nat × V)
/-- arrays, not to be written any more -/
def isFz : V → Bool
  | .arr false _ _ _ => true
  | _ => false
def frzd (L : Lay) (ρ : Nat → V) (ks : List Nat) : Bool := ks.all fun k => isFz (ρ (L.ab + k))
def frz (L : Lay) (ρ : Nat → V) (ks : List Nat) : Wr := ks.map fun k => (L.ab + k, match ρ (L.ab + k) with | .arr _ s e l => .arr false s e l | v => v)

def binV (tb : Bool) (o : BinOp) : V → V → Option V
  | .int k a, .int k' b => match o with
    | .shl => if b < 0 then none else some (.int k (k.wrap (a * 2 ^ (min b.toNat k.bits))))
    | .shr => if b < 0 then none else some (.int k (a.fdiv (2 ^ (min b.toNat k.bits))))
    | .add => if k = k' then some (.int k (k.wrap (a + b))) else none
    | .sub => if k = k' then some (.int k (k.wrap (a - b))) else none
    | .mul => if k = k' then some (.int k (k.wrap (a * b))) else none
    | .quo => if k = k' ∧ b ≠ 0 then some (.int k (k.wrap (a.tdiv b))) else none
    | .rem => if k = k' ∧ b ≠ 0 then some (.int k (a.tmod b)) else none
    | .and => if k = k' then some (.int k (k.wrap (BitVec.ofInt k.bits a &&& BitVec.ofInt k.bits b).toNat)) else none
    | .or => if k = k' then some (.int k (k.wrap (BitVec.ofInt k.bits a ||| BitVec.ofInt k.bits b).toNat)) else none
    | .xor => if k = k' then some (.int k (k.wrap (BitVec.ofInt k.bits a ^^^ BitVec.ofInt k.bits b).toNat)) else none
    | .andNot => if k = k' then some (.int k (k.wrap (BitVec.ofInt k.bits a &&& ~~~(BitVec.ofInt k.bits b)).toNat)) else none
    | .eql => if k = k' then some (.bool (a == b)) else none
    | .neq => if k = k' then some (.bool (a != b)) else none
    | .lss => if k = k' then some (.bool (decide (a < b))) else none
    | .leq => if k = k' then some (.bool (decide (a ≤ b))) else none
    | .gtr => if k = k' then some (.bool (decide (a > b))) else none
    | .geq => if k = k' then some (.bool (decide (a ≥ b))) else none
  | .bool a, .bool b => if tb then (match o with
    | .eql => some (.bool (a == b))
    | .neq => some (.bool (!(a == b)))
    | _ => none) else none
  | _, _ => none
def unV (o : UnOp) : V → Option V
  | .int k n => match o with
    | .neg => some (.int k (k.wrap (0 - n)))
    | .xor => some (.int k (k.wrap (BitVec.ofInt k.bits (if k.signed then -1 else k.max) ^^^ BitVec.ofInt k.bits n).toNat))
    | _ => none
  | .bool b => match o with
    | .not => some (.bool (!b))
    | _ => none
  | _ => none

def allCell : List V → Bool
  | [] => true
  | v :: l => cellB v && allCell l
/-- cells put into a row -/
def fillV (ρ : Nat → V) : List V → List (Nat × Nat × Sr) → Option (List V)
  | cs, [] => some cs
  | cs, (off, n, x) :: ps =>
    if (cellsV (ev ρ x)).length = n ∧ off + n ≤ cs.length ∧ allCell (cellsV (ev ρ x)) then fillV ρ (cs.take off ++ cellsV (ev ρ x) ++ cs.drop (off + n)) ps else none
/-- a row, cut in elements of `sz` cells: one cell is itself, more are a struct -/
def chunk (g : Bool) (sz : Nat) : Nat → List V → List V
  | 0, _ => []
  | n + 1, cs => (if g then V.agg (cs.take sz) else cs.headD .dead) :: chunk g sz n (cs.drop sz)
def sizeV (v : V) : Nat := (cellsV v).length
def sizesB (n : Nat) : List V → Bool
  | [] => true
  | v :: l => decide (sizeV v = n) && sizesB n l

mutual
/-- an array of one's own, by another number -/
def ren (k : Nat) : V → V
  | .own _ n => .own k n
  | .agg l => .agg (renL k l)
  | .tup l => .tup (renL k l)
  | .dead => .dead
  | .bool b => .bool b
  | .int k n => .int k n
  | .fn f => .fn f
  | .str s => .str s
  | .nil0 => .nil0
  | .lst l => .lst l
  | .ptr id off => .ptr id off
  | .ept l i off => .ept l i off
  | .epo _ _ _ _ => .dead
  | .arr q s e l => .arr q s e l
def renL (k : Nat) : List V → List V
  | [] => []
  | v :: l => ren k v :: renL k l
end
/-- what a call with a fresh array comes to -/
def frV : V → Option (V × Nat × Nat × List V)
  | .tup [r, .arr true sz ty l] => some (r, sz, ty, l)
  | _ => none
/-- a function's number, where its array is handed over -/
abbrev FR : Nat := 1000000
/-- Operation: its value, and what else it writes. -/
def opV (D : Nat → List V → Option V) (L : Lay) (ρ : Nat → V) (d : Option Nat) : Op1 → Option (V × Wr)
  | .mov x => some (ev ρ x, [])
  | .pick c x y => match ev ρ c with
    | .bool t => some (if t then ev ρ x else ev ρ y, [])
    | _ => none
  | .bin tb o x y => (binV tb o (ev ρ x) (ev ρ y)).map (·, [])
  | .un o x => (unV o (ev ρ x)).map (·, [])
  | .conv k x => match ev ρ x with
    | .int _ n => some (.int k (k.wrap n), [])
    | _ => none
  | .mm mx x y => match ev ρ x, ev ρ y with
    | .int k a, .int _ b => some (.int k (if mx then (if b > a then b else a) else (if b < a then b else a)), [])
    | _, _ => none
  | .len ra x => (elems L ρ ra (ev ρ x)).map fun l => (.int .i64 l.length, [])
  | .mk base z => match d with
    | some d => if isDead (ρ d) then some (.ptr d 0, z.mapIdx fun j v => (base + j, v)) else none
    | none => none
  | .box base n x => match d with
    | some d => if isDead (ρ d) ∧ (cellsV (ev ρ x)).length = n ∧ allCell (cellsV (ev ρ x)) then some (.ptr d 0, (cellsV (ev ρ x)).mapIdx fun j v => (base + j, v)) else none
    | none => none
  | .fad x off => match ev ρ x with
    | .ptr id o => some (.ptr id (o + off), [])
    | .ept l i o => some (.ept l i (o + off), [])
    | _ => none
  | .ld x id off r n g => match ev ρ x with
    | .ptr id' off' => if id' = id ∧ off' = off then some (if g then .agg ((List.range n).map fun j => ρ (r + j)) else ρ r, []) else none
    | _ => none
  | .st x id off r n y => match ev ρ x with
    | .ptr id' off' => if id' = id ∧ off' = off ∧ (cellsV (ev ρ y)).length = n ∧ allCell (cellsV (ev ρ y)) then some (.dead, (cellsV (ev ρ y)).mapIdx fun j v => (r + j, v)) else none
    | _ => none
  | .lde ra x n g => match ev ρ x with
    | .ept l i off => match l[i]? with
      | some v => if off + n ≤ sizeV v then some (if g then .agg (((cellsV v).drop off).take n) else (cellsV v).getD off .dead, []) else none
      | none => none
    | .epo k m i off => match ownE L ρ ra k m with
      | some l => match l[i]? with
        | some v => if off + n ≤ sizeV v then some (if g then .agg (((cellsV v).drop off).take n) else (cellsV v).getD off .dead, []) else none
        | none => none
      | none => none
    | _ => none
  | .eat ra x y n => match ev ρ y with
    | .int _ j => if 0 ≤ j then (match ev ρ x with
      | .lst l => match l[j.toNat]? with
        | some v => if sizeV v = n then some (.ept l j.toNat 0, []) else none
        | none => none
      | .own k m => match ownE L ρ ra k m with
        | some l => match l[j.toNat]? with
          | some v => if sizeV v = n then some (.epo k m j.toNat 0, []) else none
          | none => none
        | none => none
      | _ => none) else none
    | _ => none
  | .bld parts z => (fillV ρ z parts).map fun cs => (.agg cs, [])
  | .bsl n sz g parts z => (fillV ρ ((List.replicate n z).flatten) parts).bind fun cs =>
    (shrL L ρ false cs).map fun cs => (.lst (chunk g sz n cs), [])
  | .emp k sz e => if L.ab + k < L.nr ∧ isDead (ρ (L.ab + k)) then some (.own k 0, [(L.ab + k, .arr true sz e [])]) else none
  | .ext x j => match ev ρ x with
    | .tup l => match l[j]? with
      | some v => some (v, [])
      | none => none
    | _ => none
  | .fld x off n g => match ev ρ x with
    | .agg l => if off + n ≤ l.length then some (if g then .agg ((l.drop off).take n) else l.getD off .dead, []) else none
    | _ => none
  | .idx x y n len => match ev ρ x with
    | .agg l => match ev ρ y with
      | .int _ j => if 0 ≤ j ∧ j < len ∧ j.toNat * n + n ≤ l.length then some (.agg ((l.drop (j.toNat * n)).take n), []) else none
      | _ => none
    | _ => none
  | .app x y k sz bytes e => (elems L ρ true (ev ρ y)).bind fun ys =>
    if sizesB sz ys then (match ev ρ x with
    | .nil0 => if L.ab + k < L.nr ∧ isDead (ρ (L.ab + k)) ∧ ys.length * bytes ≤ 140737488355328 ∧ ys.length ≤ big then some (.own k ys.length, [(L.ab + k, .arr true sz e ys)]) else none
    | .own k' n => if L.ab + k' < L.nr then (match ρ (L.ab + k') with
      | .arr true sz' e' l => if n = l.length ∧ (sz' = sz ∧ e' = e) ∧ (l.length + ys.length) * bytes ≤ 140737488355328 ∧ l.length + ys.length ≤ big then some (.own k' (l.length + ys.length), [(L.ab + k', .arr true sz e (l ++ ys))]) else none
      | _ => none) else none
    | _ => none) else none
  | .slc n x lo hi => match ev ρ x with
    | .lst l => if sizesB n l then match (lo.map (ev ρ)).getD (.int .i64 0), (hi.map (ev ρ)).getD (.int .i64 l.length) with
      | .int _ a, .int _ b => if 0 ≤ a ∧ a ≤ b ∧ b ≤ l.length then some (.lst ((l.drop a.toNat).take (b.toNat - a.toNat)), []) else none
      | _, _ => none else none
    | _ => none
  | .call ra fr f args => (shrL L ρ ra (args.map (ev ρ))).bind fun vs => (D f (nmL vs)).bind fun r =>
    if fr then some (r, frz L ρ (ownsL (args.map (ev ρ)))) else if noLst r || ((ownsL (args.map (ev ρ))).isEmpty || (ra && frzd L ρ (ownsL (args.map (ev ρ))))) then some (r, []) else none
  | .ste x g n y => match ev ρ x with
    | .epo k m i off => if L.ab + k < L.nr then (match ρ (L.ab + k) with
      | .arr true sz ty l => if off = 0 ∧ m = l.length ∧ i < l.length ∧ sz = n ∧ (cellsV (ev ρ y)).length = n ∧ allCell (cellsV (ev ρ y)) then
          (shrL L ρ false (cellsV (ev ρ y))).map fun cs => (.dead, [(L.ab + k, .arr true sz ty (l.set i (if g then .agg cs else cs.headD .dead)))]) else none
      | _ => none) else none
    | _ => none
  | .callf k f args => (shrL L ρ false (args.map (ev ρ))).bind fun vs => (D (FR + f) (nmL vs)).bind fun r => (frV r).bind fun x =>
    if L.ab + k < L.nr ∧ isDead (ρ (L.ab + k)) then some (ren k x.1, [(L.ab + k, .arr true x.2.1 x.2.2.1 x.2.2.2)]) else none

def dstB (ρ : Nat → V) : Option Nat → Bool
  | some d => notSelf d (ρ d)
  | none => true
def dstW (v : V) : Option Nat → Wr
  | some d => [(d, v)]
  | none => []
/-- An instruction: what it writes. -/
def exec (D : Nat → List V → Option V) (L : Lay) (ρ : Nat → V) (i : Ins) : Option Wr :=
  if dstB ρ i.d then
    match i.g with
    | none => (opV D L ρ i.d i.o).map fun x => dstW x.1 i.d ++ x.2
    | some (t, want) => match ρ t with
      | .bool b => if b = want then (opV D L ρ i.d i.o).map fun x => dstW x.1 i.d ++ x.2 else some (dstW (.tup []) i.d)
      | .tup [] => some (dstW (.tup []) i.d)
      | _ => none
  else none

/-! ### what is read, what may be written -/
def srR : Sr → List Nat
  | .r t => [t]
  | _ => []
def arrR (L : Lay) : List Nat := (List.range (L.nr - L.ab)).map (L.ab + ·)
def oR (L : Lay) : Op1 → List Nat
  | .mov x => srR x
  | .pick c x y => srR c ++ srR x ++ srR y
  | .bin _ _ x y => srR x ++ srR y
  | .un _ x => srR x
  | .conv _ x => srR x
  | .mm _ x y => srR x ++ srR y
  | .len ra x => srR x ++ (if ra then arrR L else [])
  | .mk _ _ => []
  | .box _ _ x => srR x
  | .fad x _ => srR x
  | .ld x _ _ r n _ => srR x ++ r :: (List.range n).map (r + ·)
  | .st x _ _ _ _ y => srR x ++ srR y
  | .lde ra x _ _ => srR x ++ (if ra then arrR L else [])
  | .eat ra x y _ => srR x ++ srR y ++ (if ra then arrR L else [])
  | .bld ps _ => ps.flatMap fun p => srR p.2.2
  | .bsl _ _ _ ps _ => ps.flatMap fun p => srR p.2.2
  | .emp _ _ _ => arrR L
  | .ext x _ => srR x
  | .fld x _ _ _ => srR x
  | .idx x y _ _ => srR x ++ srR y
  | .app x y _ _ _ _ => srR x ++ srR y ++ arrR L
  | .slc _ x lo hi => srR x ++ (lo.map srR).getD [] ++ (hi.map srR).getD []
  | .call ra fr _ args => args.flatMap srR ++ (if ra || fr then arrR L else [])
  | .ste x _ _ y => srR x ++ srR y ++ arrR L
  | .callf _ _ args => args.flatMap srR ++ arrR L
def oW (L : Lay) : Op1 → List Nat
  | .mk base z => (List.range z.length).map (base + ·)
  | .box base n _ => (List.range n).map (base + ·)
  | .st _ _ _ r n _ => (List.range n).map (r + ·)
  | .app _ _ _ _ _ _ => arrR L
  | .emp _ _ _ => arrR L
  | .call _ fr _ _ => if fr then arrR L else []
  | .ste _ _ _ _ => arrR L
  | .callf _ _ _ => arrR L
  | _ => []
def rds (L : Lay) (i : Ins) : List Nat := i.d.toList ++ (i.g.map (·.1)).toList ++ oR L i.o
def wrs (L : Lay) (i : Ins) : List Nat := i.d.toList ++ oW L i.o
end Go.Proofs.YtmbdbkcifmkpbaaGreatDoor.Den
end
section
set_option linter.unusedVariables false
namespace Go.Proofs.YtmbdbkcifmkpbaaGreatDoor.Den
open Go Go.RowKit

/-! ### what is not read does not matter -/
section
variable {L : Lay} {ρ ρ' : Nat → V}
theorem ev_frame {x : Sr} (h : ∀ t ∈ srR x, ρ t = ρ' t) : ev ρ x = ev ρ' x := by
  cases x <;> simp_all [ev, srR]
theorem mem_arrR {t : Nat} : t ∈ arrR L ↔ L.ab ≤ t ∧ t < L.nr := by
  unfold arrR
  simp only [List.mem_map, List.mem_range]
  constructor
  · rintro ⟨a, h, rfl⟩; omega
  · intro ⟨h1, h2⟩; exact ⟨t - L.ab, by omega, by omega⟩
theorem ownE_frame {ra : Bool} (h : ra = true → ∀ t ∈ arrR L, ρ t = ρ' t) (k n : Nat) : ownE L ρ ra k n = ownE L ρ' ra k n := by
  unfold ownE
  by_cases hc : (ra && decide (L.ab + k < L.nr)) = true
  · have hc' := hc
    rw [Bool.and_eq_true, decide_eq_true_iff] at hc'
    rw [if_pos hc, if_pos hc, h hc'.1 (L.ab + k) (mem_arrR.2 ⟨by omega, hc'.2⟩)]
  · rw [if_neg hc, if_neg hc]
theorem elems_frame {ra : Bool} (h : ra = true → ∀ t ∈ arrR L, ρ t = ρ' t) (v : V) : elems L ρ ra v = elems L ρ' ra v := by
  cases v <;> first | rfl | exact ownE_frame h _ _
theorem ownE_lt {ra : Bool} {k n : Nat} {l : List V} (h : ownE L ρ ra k n = some l) : ra = true ∧ L.ab + k < L.nr := by
  unfold ownE at h
  by_cases hc : (ra && decide (L.ab + k < L.nr)) = true
  · rw [Bool.and_eq_true, decide_eq_true_iff] at hc
    exact hc
  · rw [if_neg hc] at h
    simp at h
mutual
theorem shr_frame {ra : Bool} (h : ra = true → ∀ t ∈ arrR L, ρ t = ρ' t) : ∀ v : V, shr L ρ ra v = shr L ρ' ra v
  | .bool b => rfl
  | .int k n => rfl
  | .fn f => rfl
  | .str s => rfl
  | .nil0 => rfl
  | .lst l => rfl
  | .own k n => by unfold shr; rw [ownE_frame h]
  | .agg l => by unfold shr; rw [shrL_frame h l]
  | .dead => rfl
  | .tup _ => rfl
  | .ptr _ _ => rfl
  | .ept _ _ _ => rfl
  | .epo _ _ _ _ => rfl
  | .arr _ _ _ _ => rfl
theorem shrL_frame {ra : Bool} (h : ra = true → ∀ t ∈ arrR L, ρ t = ρ' t) : ∀ l : List V, shrL L ρ ra l = shrL L ρ' ra l
  | [] => rfl
  | v :: l => by unfold shrL; rw [shr_frame h v, shrL_frame h l]
end
mutual
theorem shr_owns {ra : Bool} : ∀ (v v' : V), shr L ρ ra v = some v' → ∀ k ∈ owns v, ra = true ∧ L.ab + k < L.nr
  | .own k n, v', h, k', hk => by
    unfold shr at h
    unfold owns at hk
    simp only [List.mem_singleton] at hk
    subst hk
    obtain ⟨l, hl, _⟩ := Option.map_eq_some_iff.1 h
    exact ownE_lt hl
  | .agg l, v', h, k, hk => by
    unfold shr at h
    unfold owns at hk
    cases hl : shrL L ρ ra l with
    | none => rw [hl] at h; simp at h
    | some l' => exact shrL_owns l l' hl k hk
  | .bool _, v', h, k, hk => by unfold owns at hk; simp at hk
  | .int _ _, v', h, k, hk => by unfold owns at hk; simp at hk
  | .fn _, v', h, k, hk => by unfold owns at hk; simp at hk
  | .str _, v', h, k, hk => by unfold owns at hk; simp at hk
  | .nil0, v', h, k, hk => by unfold owns at hk; simp at hk
  | .lst _, v', h, k, hk => by unfold owns at hk; simp at hk
  | .dead, v', h, k, hk => by unfold owns at hk; simp at hk
  | .tup _, v', h, k, hk => by unfold owns at hk; simp at hk
  | .ptr _ _, v', h, k, hk => by unfold owns at hk; simp at hk
  | .ept _ _ _, v', h, k, hk => by unfold owns at hk; simp at hk
  | .epo _ _ _ _, v', h, k, hk => by unfold owns at hk; simp at hk
  | .arr _ _ _ _, v', h, k, hk => by unfold owns at hk; simp at hk
theorem shrL_owns {ra : Bool} : ∀ (l l' : List V), shrL L ρ ra l = some l' → ∀ k ∈ ownsL l, ra = true ∧ L.ab + k < L.nr
  | [], l', h, k, hk => by unfold ownsL at hk; simp at hk
  | v :: l, l', h, k, hk => by
    unfold shrL at h
    unfold ownsL at hk
    rw [List.mem_append] at hk
    obtain ⟨v', hv, h⟩ := Option.bind_eq_some_iff.1 h
    rcases hk with hk | hk
    · exact shr_owns v v' hv k hk
    · cases hl : shrL L ρ ra l with
      | none => rw [hl] at h; simp at h
      | some l2 => exact shrL_owns l l2 hl k hk
end
theorem fillV_frame : ∀ (ps : List (Nat × Nat × Sr)) (cs : List V), (∀ t ∈ ps.flatMap (fun p => srR p.2.2), ρ t = ρ' t) → fillV ρ cs ps = fillV ρ' cs ps
  | [], cs, h => rfl
  | (off, n, x) :: ps, cs, h => by
    unfold fillV
    have hx : ev ρ x = ev ρ' x := ev_frame fun t ht => h t (by simp [ht])
    rw [hx]
    split
    · exact fillV_frame ps _ fun t ht => h t (by simp only [List.flatMap_cons, List.mem_append]; exact .inr ht)
    · rfl
theorem evs_frame : ∀ (args : List Sr), (∀ t ∈ args.flatMap srR, ρ t = ρ' t) → args.map (ev ρ) = args.map (ev ρ')
  | [], h => rfl
  | x :: args, h => by
    rw [List.map_cons, List.map_cons, ev_frame fun t ht => h t (by simp [ht]), evs_frame args fun t ht => h t (by simp only [List.flatMap_cons, List.mem_append]; exact .inr ht)]
theorem frz_frame {ks : List Nat} (hk : ∀ k ∈ ks, L.ab + k < L.nr) (h : ∀ t ∈ arrR L, ρ t = ρ' t) : frz L ρ ks = frz L ρ' ks := by
  unfold frz
  refine List.map_congr_left fun k hm => ?_
  rw [h (L.ab + k) (mem_arrR.2 ⟨by omega, hk k hm⟩)]
theorem frzd_frame {ks : List Nat} (hk : ∀ k ∈ ks, L.ab + k < L.nr) (h : ∀ t ∈ arrR L, ρ t = ρ' t) : frzd L ρ ks = frzd L ρ' ks := by
  unfold frzd
  rw [Bool.eq_iff_iff, List.all_eq_true, List.all_eq_true]
  refine ⟨fun H k hm => ?_, fun H k hm => ?_⟩
  · rw [← h (L.ab + k) (mem_arrR.2 ⟨by omega, hk k hm⟩)]; exact H k hm
  · rw [h (L.ab + k) (mem_arrR.2 ⟨by omega, hk k hm⟩)]; exact H k hm
theorem opV_frame (D : Nat → List V → Option V) (d : Option Nat) (hd : ∀ t ∈ d.toList, ρ t = ρ' t) (o : Op1) (h : ∀ t ∈ oR L o, ρ t = ρ' t) : opV D L ρ d o = opV D L ρ' d o := by
  cases o with
  | mov x => unfold opV; dsimp only; rw [ev_frame h]
  | pick c x y =>
    simp only [oR, List.mem_append] at h
    unfold opV
    dsimp only
    rw [ev_frame (x := c) fun t ht => h t (.inl (.inl ht)), ev_frame (x := x) fun t ht => h t (.inl (.inr ht)), ev_frame (x := y) fun t ht => h t (.inr ht)]
  | bin tb o x y =>
    simp only [oR, List.mem_append] at h
    unfold opV
    dsimp only
    rw [ev_frame (x := x) fun t ht => h t (.inl ht), ev_frame (x := y) fun t ht => h t (.inr ht)]
  | un o x => unfold opV; dsimp only; rw [ev_frame h]
  | conv k x => unfold opV; dsimp only; rw [ev_frame h]
  | mm mx x y =>
    simp only [oR, List.mem_append] at h
    unfold opV
    dsimp only
    rw [ev_frame (x := x) fun t ht => h t (.inl ht), ev_frame (x := y) fun t ht => h t (.inr ht)]
  | len ra x =>
    simp only [oR, List.mem_append] at h
    unfold opV
    dsimp only
    rw [ev_frame (x := x) fun t ht => h t (.inl ht), elems_frame fun hr t ht => h t (.inr (by rw [hr]; exact ht))]
  | mk base z =>
    unfold opV
    dsimp only
    cases d with
    | none => rfl
    | some d => simp only; rw [hd d (by simp)]
  | box base n x =>
    unfold opV
    dsimp only
    cases d with
    | none => rfl
    | some d => simp only; rw [hd d (by simp), ev_frame h]
  | fad x off => unfold opV; dsimp only; rw [ev_frame h]
  | ld x id off r n g =>
    simp only [oR, List.mem_append, List.mem_cons, List.mem_map, List.mem_range] at h
    unfold opV
    dsimp only
    rw [ev_frame (x := x) fun t ht => h t (.inl ht), h r (.inr (.inl rfl))]
    rw [List.map_congr_left (l := List.range n) (f := fun j => ρ (r + j)) (g := fun j => ρ' (r + j)) fun j hj => h (r + j) (.inr (.inr ⟨j, List.mem_range.1 hj, rfl⟩))]
  | st x id off r n y =>
    simp only [oR, List.mem_append] at h
    unfold opV
    dsimp only
    rw [ev_frame (x := x) fun t ht => h t (.inl ht), ev_frame (x := y) fun t ht => h t (.inr ht)]
  | lde ra x n g =>
    simp only [oR, List.mem_append] at h
    unfold opV
    dsimp only
    rw [ev_frame (x := x) fun t ht => h t (.inl ht)]
    split
    · rfl
    · rw [ownE_frame fun hr t ht => h t (.inr (by rw [hr]; exact ht))]
    · rfl
  | eat ra x y n =>
    simp only [oR, List.mem_append] at h
    unfold opV
    dsimp only
    rw [ev_frame (x := x) fun t ht => h t (.inl (.inl ht)), ev_frame (x := y) fun t ht => h t (.inl (.inr ht))]
    split
    · split
      · split
        · rfl
        · rw [ownE_frame fun hr t ht => h t (.inr (by rw [hr]; exact ht))]
        · rfl
      · rfl
    · rfl
  | bld ps z => unfold opV; dsimp only; rw [fillV_frame ps z h]
  | bsl n sz g ps z =>
    unfold opV
    dsimp only
    rw [fillV_frame ps _ h]
    rw [show (fun cs => (shrL L ρ false cs).map fun cs => (V.lst (chunk g sz n cs), ([] : Wr))) = (fun cs => (shrL L ρ' false cs).map fun cs => (V.lst (chunk g sz n cs), ([] : Wr))) from
      funext fun cs => by rw [shrL_frame (ra := false) (ρ := ρ) (ρ' := ρ') (fun hr => by simp at hr)]]
  | emp k sz e =>
    unfold opV
    dsimp only
    by_cases hk : L.ab + k < L.nr
    · rw [h (L.ab + k) (mem_arrR.2 ⟨by omega, hk⟩)]
    · simp [hk]
  | ext x j => unfold opV; dsimp only; rw [ev_frame h]
  | fld x off n g => unfold opV; dsimp only; rw [ev_frame h]
  | idx x y n len =>
    simp only [oR, List.mem_append] at h
    unfold opV; dsimp only; rw [ev_frame fun t ht => h t (.inl ht), ev_frame fun t ht => h t (.inr ht)]
  | app x y k sz bytes e =>
    simp only [oR, List.mem_append] at h
    have ha : ∀ t ∈ arrR L, ρ t = ρ' t := fun t ht => h t (.inr ht)
    unfold opV
    dsimp only
    rw [ev_frame (x := x) fun t ht => h t (.inl (.inl ht)), ev_frame (x := y) fun t ht => h t (.inl (.inr ht)), elems_frame (ρ := ρ) (ρ' := ρ') (fun _ => ha)]
    congr 1
    funext ys
    split
    · split
      · by_cases hk : L.ab + k < L.nr
        · rw [ha (L.ab + k) (mem_arrR.2 ⟨by omega, hk⟩)]
        · simp [hk]
      · rename_i k' n _
        by_cases hk : L.ab + k' < L.nr
        · rw [ha (L.ab + k') (mem_arrR.2 ⟨by omega, hk⟩)]
        · simp [hk]
      · rfl
    · rfl
  | slc n x lo hi =>
    simp only [oR, List.mem_append] at h
    unfold opV
    dsimp only
    rw [ev_frame (x := x) fun t ht => h t (.inl (.inl ht))]
    have h1 : lo.map (ev ρ) = lo.map (ev ρ') := by
      cases lo with
      | none => rfl
      | some y => simp only [Option.map_some]; rw [ev_frame fun t ht => h t (.inl (.inr (by simpa using ht)))]
    have h2 : hi.map (ev ρ) = hi.map (ev ρ') := by
      cases hi with
      | none => rfl
      | some y => simp only [Option.map_some]; rw [ev_frame fun t ht => h t (.inr (by simpa using ht))]
    rw [h1, h2]
  | call ra fr f args =>
    simp only [oR, List.mem_append] at h
    unfold opV
    dsimp only
    rw [evs_frame args fun t ht => h t (.inl ht)]
    rw [shrL_frame (ra := ra) (ρ := ρ) (ρ' := ρ') fun hr t ht => h t (.inr (by rw [hr]; exact ht))]
    cases hs : shrL L ρ' ra (args.map (ev ρ')) with
    | none => rfl
    | some vs =>
      simp only [Option.bind_some]
      congr 1
      funext r
      cases fr with
      | false =>
        cases ra with
        | false => rfl
        | true =>
          simp only [Bool.false_eq_true, if_false, Bool.true_and]
          rw [frzd_frame (fun k hk => (shrL_owns _ _ hs k hk).2) fun t ht => h t (.inr (by simpa using ht))]
      | true =>
        simp only [if_true]
        rw [frz_frame (fun k hk => (shrL_owns _ _ hs k hk).2) fun t ht => h t (.inr (by simpa using ht))]
  | ste x g n y =>
    simp only [oR, List.mem_append] at h
    have ha : ∀ t ∈ arrR L, ρ t = ρ' t := fun t ht => h t (.inr ht)
    unfold opV
    dsimp only
    rw [ev_frame (x := x) fun t ht => h t (.inl (.inl ht)), ev_frame (x := y) fun t ht => h t (.inl (.inr ht))]
    rw [shrL_frame (ra := false) (ρ := ρ) (ρ' := ρ') (fun hr => by simp at hr)]
    split
    · rename_i k m i off _
      by_cases hk : L.ab + k < L.nr
      · rw [ha (L.ab + k) (mem_arrR.2 ⟨by omega, hk⟩)]
      · simp [hk]
    · rfl
  | callf k f args =>
    simp only [oR, List.mem_append] at h
    have ha : ∀ t ∈ arrR L, ρ t = ρ' t := fun t ht => h t (.inr ht)
    unfold opV
    dsimp only
    rw [evs_frame args fun t ht => h t (.inl ht), shrL_frame (ra := false) (ρ := ρ) (ρ' := ρ') (fun hr => by simp at hr)]
    by_cases hk : L.ab + k < L.nr
    · rw [ha (L.ab + k) (mem_arrR.2 ⟨by omega, hk⟩)]
    · simp [hk]
theorem exec_frame (D : Nat → List V → Option V) (i : Ins) (h : ∀ t ∈ rds L i, ρ t = ρ' t) : exec D L ρ i = exec D L ρ' i := by
  unfold rds at h
  have hd : ∀ t ∈ i.d.toList, ρ t = ρ' t := fun t ht => h t (by simp only [List.mem_append]; exact .inl (.inl ht))
  have hg : ∀ t ∈ (i.g.map (·.1)).toList, ρ t = ρ' t := fun t ht => h t (by simp only [List.mem_append]; exact .inl (.inr ht))
  have ho := opV_frame (L := L) D i.d hd i.o fun t ht => h t (by simp only [List.mem_append]; exact .inr ht)
  unfold exec
  rw [ho]
  have hb : dstB ρ i.d = dstB ρ' i.d := by
    cases hdd : i.d with
    | none => rfl
    | some d => unfold dstB; dsimp only; rw [hd d (by simp [hdd])]
  rw [hb]
  cases hgg : i.g with
  | none => rfl
  | some g =>
    obtain ⟨t, want⟩ := g
    simp only
    rw [hg t (by simp [hgg])]
end

/-! ### what is written -/
theorem mapIdx_fst (b : Nat) : ∀ (l : List V) (p : Nat × V), p ∈ l.mapIdx (fun j v => (b + j, v)) → ∃ j, j < l.length ∧ p.1 = b + j := by
  intro l p hp
  rw [List.mem_mapIdx] at hp
  obtain ⟨j, hj, rfl⟩ := hp
  exact ⟨j, hj, rfl⟩
theorem exec_writes {D : Nat → List V → Option V} {L : Lay} {ρ : Nat → V} {i : Ins} {ws : Wr} (h : exec D L ρ i = some ws) : ∀ p ∈ ws, p.1 ∈ wrs L i := by
  have key : ∀ x, opV D L ρ i.d i.o = some x → ∀ p ∈ x.2, p.1 ∈ oW L i.o := by
    intro x hx p hp
    cases ho : i.o with
    | mk base z =>
      rw [ho] at hx
      unfold opV at hx
      dsimp only at hx
      split at hx
      · split at hx
        · simp only [Option.some.injEq] at hx
          subst hx
          obtain ⟨j, hj, e⟩ := mapIdx_fst base z p hp
          unfold oW
          rw [e]
          exact List.mem_map.2 ⟨j, List.mem_range.2 hj, rfl⟩
        · simp at hx
      · simp at hx
    | box base n y =>
      rw [ho] at hx
      unfold opV at hx
      dsimp only at hx
      split at hx
      · split at hx
        · rename_i hc
          simp only [Option.some.injEq] at hx
          subst hx
          obtain ⟨j, hj, e⟩ := mapIdx_fst base _ p hp
          unfold oW
          rw [e]
          exact List.mem_map.2 ⟨j, List.mem_range.2 (by omega), rfl⟩
        · simp at hx
      · simp at hx
    | st y id off r n z =>
      rw [ho] at hx
      unfold opV at hx
      dsimp only at hx
      split at hx
      · split at hx
        · rename_i hc
          simp only [Option.some.injEq] at hx
          subst hx
          obtain ⟨j, hj, e⟩ := mapIdx_fst r _ p hp
          unfold oW
          rw [e]
          exact List.mem_map.2 ⟨j, List.mem_range.2 (by omega), rfl⟩
        · simp at hx
      · simp at hx
    | app y z k sz bytes e =>
      rw [ho] at hx
      unfold opV at hx
      dsimp only at hx
      obtain ⟨ys, _, hx⟩ := Option.bind_eq_some_iff.1 hx
      unfold oW
      split at hx
      · split at hx
        · split at hx
          · rename_i hc
            simp only [Option.some.injEq] at hx
            subst hx
            simp only [List.mem_singleton] at hp
            subst hp
            exact mem_arrR.2 ⟨by simp, hc.1⟩
          · simp at hx
        · split at hx
          · rename_i hk
            split at hx
            · split at hx
              · simp only [Option.some.injEq] at hx
                subst hx
                simp only [List.mem_singleton] at hp
                subst hp
                exact mem_arrR.2 ⟨by simp, hk⟩
              · simp at hx
            · simp at hx
          · simp at hx
        · simp at hx
      · simp at hx
    | call ra fr f args =>
      rw [ho] at hx
      unfold opV at hx
      dsimp only at hx
      obtain ⟨vs, hs, hx⟩ := Option.bind_eq_some_iff.1 hx
      obtain ⟨r, _, hx⟩ := Option.bind_eq_some_iff.1 hx
      split at hx
      · rename_i hfr
        simp only [Option.some.injEq] at hx
        subst hx
        unfold oW
        dsimp only
        rw [if_pos hfr]
        unfold frz at hp
        obtain ⟨k, hk, rfl⟩ := List.mem_map.1 hp
        exact mem_arrR.2 ⟨by simp, (shrL_owns _ _ hs k hk).2⟩
      · split at hx
        · simp only [Option.some.injEq] at hx
          subst hx
          simp at hp
        · simp at hx
    | ste y g n z =>
      rw [ho] at hx
      unfold opV at hx
      dsimp only at hx
      split at hx
      · split at hx
        · rename_i hk
          split at hx
          · split at hx
            · obtain ⟨cs, _, rfl⟩ := Option.map_eq_some_iff.1 hx
              simp only [List.mem_singleton] at hp
              subst hp
              exact mem_arrR.2 ⟨by simp, hk⟩
            · cases hx
          · cases hx
        · cases hx
      · cases hx
    | callf k f args =>
      rw [ho] at hx
      unfold opV at hx
      dsimp only at hx
      obtain ⟨vs, _, hx⟩ := Option.bind_eq_some_iff.1 hx
      obtain ⟨r, _, hx⟩ := Option.bind_eq_some_iff.1 hx
      obtain ⟨y, _, hx⟩ := Option.bind_eq_some_iff.1 hx
      split at hx
      · rename_i hk
        simp only [Option.some.injEq] at hx
        subst hx
        simp only [List.mem_singleton] at hp
        subst hp
        exact mem_arrR.2 ⟨by simp, hk.1⟩
      · cases hx
    | mov y => rw [ho] at hx; simp only [opV, Option.some.injEq] at hx; subst hx; simp at hp
    | pick c y z => rw [ho] at hx; unfold opV at hx; dsimp only at hx; split at hx <;> simp at hx; subst hx; simp at hp
    | bin tb o y z => rw [ho] at hx; unfold opV at hx; dsimp only at hx; simp only [Option.map_eq_some_iff] at hx; obtain ⟨_, _, rfl⟩ := hx; simp at hp
    | un o y => rw [ho] at hx; unfold opV at hx; dsimp only at hx; simp only [Option.map_eq_some_iff] at hx; obtain ⟨_, _, rfl⟩ := hx; simp at hp
    | conv k y => rw [ho] at hx; unfold opV at hx; dsimp only at hx; split at hx <;> simp at hx; subst hx; simp at hp
    | mm mx y z => rw [ho] at hx; unfold opV at hx; dsimp only at hx; split at hx <;> simp at hx; subst hx; simp at hp
    | len ra y => rw [ho] at hx; unfold opV at hx; dsimp only at hx; simp only [Option.map_eq_some_iff] at hx; obtain ⟨_, _, rfl⟩ := hx; simp at hp
    | fad y off => rw [ho] at hx; unfold opV at hx; dsimp only at hx; split at hx <;> simp at hx <;> (subst hx; simp at hp)
    | ld y id off r n g => rw [ho] at hx; unfold opV at hx; dsimp only at hx; split at hx <;> simp at hx; obtain ⟨_, rfl⟩ := hx; simp at hp
    | lde ra y n g =>
      rw [ho] at hx
      unfold opV at hx
      dsimp only at hx
      split at hx
      · split at hx <;> simp at hx
        obtain ⟨_, rfl⟩ := hx; simp at hp
      · split at hx
        · split at hx <;> simp at hx
          obtain ⟨_, rfl⟩ := hx; simp at hp
        · simp at hx
      · simp at hx
    | eat ra y z n =>
      rw [ho] at hx
      unfold opV at hx
      dsimp only at hx
      split at hx
      · split at hx
        · split at hx
          · split at hx <;> simp at hx
            obtain ⟨_, rfl⟩ := hx; simp at hp
          · split at hx
            · split at hx <;> simp at hx
              obtain ⟨_, rfl⟩ := hx; simp at hp
            · simp at hx
          · simp at hx
        · simp at hx
      · simp at hx
    | bld ps z => rw [ho] at hx; unfold opV at hx; dsimp only at hx; simp only [Option.map_eq_some_iff] at hx; obtain ⟨_, _, rfl⟩ := hx; simp at hp
    | bsl n sz g ps z =>
      rw [ho] at hx
      unfold opV at hx
      dsimp only at hx
      obtain ⟨cs, _, hx⟩ := Option.bind_eq_some_iff.1 hx
      simp only [Option.map_eq_some_iff] at hx; obtain ⟨_, _, rfl⟩ := hx; simp at hp
    | emp k sz e =>
      rw [ho] at hx
      unfold opV at hx
      dsimp only at hx
      split at hx
      · rename_i hc
        simp only [Option.some.injEq] at hx
        subst hx
        simp only [List.mem_singleton] at hp
        subst hp
        exact mem_arrR.2 ⟨by simp, hc.1⟩
      · simp at hx
    | ext y j =>
      rw [ho] at hx
      unfold opV at hx
      dsimp only at hx
      split at hx
      · split at hx <;> simp at hx
        subst hx; simp at hp
      · simp at hx
    | idx y z n len =>
      rw [ho] at hx; unfold opV at hx; dsimp only at hx
      split at hx
      · split at hx
        · split at hx <;> simp at hx
          obtain ⟨_, rfl⟩ := hx; simp at hp
        · simp at hx
      · simp at hx
    | fld y off n g => rw [ho] at hx; unfold opV at hx; dsimp only at hx; split at hx <;> simp at hx; obtain ⟨_, rfl⟩ := hx; simp at hp
    | slc n y lo hi =>
      rw [ho] at hx
      unfold opV at hx
      dsimp only at hx
      split at hx
      · split at hx
        · split at hx
          · split at hx <;> simp at hx
            subst hx; simp at hp
          · simp at hx
        · simp at hx
      · simp at hx
  have hdw : ∀ v, ∀ p ∈ dstW v i.d, p.1 ∈ i.d.toList := by
    intro v p hp
    cases hd : i.d with
    | none => rw [hd] at hp; simp [dstW] at hp
    | some d => rw [hd] at hp; simp [dstW] at hp; subst hp; simp
  have all : ∀ x, opV D L ρ i.d i.o = some x → ∀ p ∈ dstW x.1 i.d ++ x.2, p.1 ∈ wrs L i := by
    intro x hx p hp
    unfold wrs
    rw [List.mem_append] at hp ⊢
    rcases hp with hp | hp
    · exact .inl (hdw _ p hp)
    · exact .inr (key x hx p hp)
  unfold exec at h
  split at h
  · split at h
    · obtain ⟨x, hx, rfl⟩ := Option.map_eq_some_iff.1 h
      exact all x hx
    · split at h
      · split at h
        · obtain ⟨x, hx, rfl⟩ := Option.map_eq_some_iff.1 h
          exact all x hx
        · simp only [Option.some.injEq] at h
          subst h
          intro p hp
          unfold wrs
          exact List.mem_append.2 (.inl (hdw _ p hp))
      · simp only [Option.some.injEq] at h
        subst h
        intro p hp
        unfold wrs
        exact List.mem_append.2 (.inl (hdw _ p hp))
      · simp at h
  · simp at h
/-! ### registers, written -/
def upd1 (ρ : Nat → V) (t : Nat) (v : V) : Nat → V := fun s => if s = t then v else ρ s
def upd (ρ : Nat → V) : Wr → Nat → V
  | [] => ρ
  | (t, v) :: ws => upd (upd1 ρ t v) ws
theorem upd_out : ∀ (ws : Wr) (ρ : Nat → V) (t : Nat), (∀ p ∈ ws, p.1 ≠ t) → upd ρ ws t = ρ t
  | [], ρ, t, h => rfl
  | (s, v) :: ws, ρ, t, h => by
    unfold upd
    rw [upd_out ws _ t fun p hp => h p (List.mem_cons_of_mem _ hp)]
    unfold upd1
    rw [if_neg fun e => h (s, v) (List.mem_cons_self ..) e.symm]
theorem upd_in : ∀ (ws : Wr) (ρ ρ' : Nat → V) (t : Nat), (∃ p ∈ ws, p.1 = t) ∨ ρ t = ρ' t → upd ρ ws t = upd ρ' ws t
  | [], ρ, ρ', t, h => by
    rcases h with ⟨p, hp, _⟩ | h
    · simp at hp
    · exact h
  | (s, v) :: ws, ρ, ρ', t, h => by
    unfold upd
    refine upd_in ws _ _ t ?_
    rcases h with ⟨p, hp, e⟩ | h
    · rcases List.mem_cons.1 hp with rfl | hp
      · exact .inr (by unfold upd1; rw [if_pos e.symm, if_pos e.symm])
      · exact .inl ⟨p, hp, e⟩
    · exact .inr (by unfold upd1; rw [h])
theorem upd_comm {ws ws' : Wr} (ρ : Nat → V) (h : ∀ p ∈ ws, ∀ q ∈ ws', p.1 ≠ q.1) : upd (upd ρ ws) ws' = upd (upd ρ ws') ws := by
  funext t
  by_cases h1 : ∃ p ∈ ws, p.1 = t
  · obtain ⟨p, hp, e⟩ := h1
    rw [upd_out ws' _ t fun q hq he => h p hp q hq (e.trans he.symm)]
    exact upd_in ws _ _ t (.inl ⟨p, hp, e⟩)
  · have h1' : ∀ p ∈ ws, p.1 ≠ t := fun p hp e => h1 ⟨p, hp, e⟩
    rw [upd_out ws (upd ρ ws') t h1']
    by_cases h2 : ∃ p ∈ ws', p.1 = t
    · exact upd_in ws' _ _ t (.inl h2)
    · exact upd_in ws' _ _ t (.inr (upd_out ws ρ t h1'))

/-! ### any order -/
def apartL (a b : List Nat) : Bool := a.all fun x => !b.contains x
theorem apartL_spec {a b : List Nat} (h : apartL a b = true) : ∀ x ∈ a, x ∉ b := by
  intro x hx hb
  unfold apartL at h
  have := List.all_eq_true.1 h x hx
  simp [hb] at this
def indep (L : Lay) (i j : Ins) : Bool := apartL (wrs L i) (rds L j) && (apartL (wrs L i) (wrs L j) && apartL (wrs L j) (rds L i))
def freeI (L : Lay) (ops : Array Oper) (is : Array Ins) (listed : Array Bool) (k : Nat) : Bool :=
  (List.range ops.size).all fun j => j == k || listed.getD j true || (match ops[j]? with
    | some o => o.after.any (fun e => Region.binds .any e && e.on == k)
    | none => true) || indep L (is.getD k default) (is.getD j default)
def lexI (L : Lay) (ops : Array Oper) (is : Array Ins) : Nat → Nat → Array Bool → Bool
  | 0, _, listed => (Region.ready .any ops listed).isEmpty
  | fuel + 1, k, listed => (Region.ready .any ops listed).contains k && freeI L ops is listed k && lexI L ops is fuel (k + 1) (listed.setIfInBounds k true)

section
variable (D : Nat → List V → Option V) (L : Lay) (ops : Array Oper) (is : Array Ins)
def absAny (Post : (Nat → V) → Prop) : Nat → Array Bool → (Nat → V) → Prop
  | 0, listed, ρ => Region.ready .any ops listed = [] ∧ Post ρ
  | fuel + 1, listed, ρ => (Region.ready .any ops listed = [] → Post ρ) ∧
    ∀ i ∈ Region.ready .any ops listed, ∃ ws, exec D L ρ (is.getD i default) = some ws ∧ absAny Post fuel (listed.setIfInBounds i true) (upd ρ ws)
end
theorem indep_spec {D : Nat → List V → Option V} {L : Lay} {i j : Ins} (h : indep L i j = true) {ρ : Nat → V} {ws : Wr} (hi : exec D L ρ i = some ws) :
    exec D L (upd ρ ws) j = exec D L ρ j ∧ ∀ ws', exec D L ρ j = some ws' → exec D L (upd ρ ws') i = some ws ∧ upd (upd ρ ws) ws' = upd (upd ρ ws') ws := by
  unfold indep at h
  rw [Bool.and_eq_true, Bool.and_eq_true] at h
  obtain ⟨h1, h2, h3⟩ := h
  have hw := exec_writes hi
  refine ⟨exec_frame D j fun t ht => upd_out ws ρ t fun p hp e => apartL_spec h1 _ (hw p hp) (e ▸ ht), fun ws' hj => ?_⟩
  have hw' := exec_writes hj
  refine ⟨?_, upd_comm ρ fun p hp q hq e => apartL_spec h2 _ (hw p hp) (e ▸ hw' q hq)⟩
  rw [← hi]
  exact exec_frame D i fun t ht => upd_out ws' ρ t fun p hp e => apartL_spec h3 _ (hw' p hp) (e ▸ ht)
theorem absAny_first {D : Nat → List V → Option V} {L : Lay} {ops : Array Oper} {is : Array Ins} {Post : (Nat → V) → Prop} {i : Nat} :
    ∀ (fuel : Nat) (listed : Array Bool) (ρ : Nat → V) (ws : Wr),
      (∀ j oj, ops[j]? = some oj → j ≠ i → listed.getD j true = false → (∀ e ∈ oj.after, Region.binds .any e = true → e.on ≠ i) → indep L (is.getD i default) (is.getD j default) = true) →
      i ∈ Region.ready .any ops listed → exec D L ρ (is.getD i default) = some ws →
      absAny D L ops is Post fuel (listed.setIfInBounds i true) (upd ρ ws) → absAny D L ops is Post (fuel + 1) listed ρ := by
  intro fuel
  induction fuel with
  | zero =>
    intro listed ρ ws _ hr hx H
    refine ⟨fun h => (by rw [h] at hr; cases hr), fun j hj => ?_⟩
    by_cases hji : j = i
    · subst hji; exact ⟨ws, hx, H⟩
    · have := ready_mono hj hji
      rw [H.1] at this
      cases this
  | succ fuel ih =>
    intro listed ρ ws hfree hr hx H
    refine ⟨fun h => (by rw [h] at hr; cases hr), fun j hj => ?_⟩
    by_cases hji : j = i
    · subst hji; exact ⟨ws, hx, H⟩
    · obtain ⟨ws', hx', H'⟩ := H.2 j (ready_mono hj hji)
      obtain ⟨hjun, oj, hoj, hall⟩ := mem_ready.1 hj
      have hnot : ∀ e ∈ oj.after, Region.binds .any e = true → e.on ≠ i := fun e he hb heq => by
        have h1 := hall e he hb
        have h0 := (mem_ready.1 hr).1
        rw [heq] at h1
        rcases Nat.lt_or_ge i listed.size with h' | h'
        · simp [h'] at h0 h1; rw [h0] at h1; cases h1
        · simp [Array.getElem?_eq_none h'] at h1
      obtain ⟨e1, e2⟩ := indep_spec (hfree j oj hoj hji hjun hnot) hx
      rw [e1] at hx'
      obtain ⟨e3, e4⟩ := e2 ws' hx'
      have hfree' : ∀ k ok, ops[k]? = some ok → k ≠ i → (listed.setIfInBounds j true).getD k true = false →
          (∀ e ∈ ok.after, Region.binds .any e = true → e.on ≠ i) → indep L (is.getD i default) (is.getD k default) = true := fun k ok hk hki hun hno => by
        refine hfree k ok hk hki ?_ hno
        by_cases hjk : j = k
        · subst hjk; exact hjun
        · rw [getD_set_ne true hjk] at hun; exact hun
      refine ⟨ws', hx', ih (listed.setIfInBounds j true) _ ws hfree' (ready_mono hr (Ne.symm hji)) e3 ?_⟩
      rw [Array.setIfInBounds_comm _ _ hji, ← e4]
      exact H'
/-- the lexical run -/
def runI (D : Nat → List V → Option V) (L : Lay) : List Ins → (Nat → V) → Option (Nat → V)
  | [], ρ => some ρ
  | i :: is, ρ => (exec D L ρ i).bind fun ws => runI D L is (upd ρ ws)
theorem freeI_spec {L : Lay} {ops : Array Oper} {is : Array Ins} {listed : Array Bool} {k : Nat} (h : freeI L ops is listed k = true) :
    ∀ j oj, ops[j]? = some oj → j ≠ k → listed.getD j true = false → (∀ e ∈ oj.after, Region.binds .any e = true → e.on ≠ k) → indep L (is.getD k default) (is.getD j default) = true := by
  intro j oj hj hjk hun hno
  have hlt : j < ops.size := (Array.getElem?_eq_some_iff.1 hj).1
  have := List.all_eq_true.1 h j (List.mem_range.2 hlt)
  rw [hj] at this
  simp only [Bool.or_eq_true] at this
  rcases this with ((h1 | h1) | h1) | h1
  · exact absurd (by simpa using h1) hjk
  · rw [hun] at h1; cases h1
  · rw [Array.any_eq_true'] at h1
    obtain ⟨e, he, h2⟩ := h1
    rw [Bool.and_eq_true] at h2
    exact absurd (by simpa using h2.2) (hno e he h2.1)
  · exact h1
theorem absAny_lex {D : Nat → List V → Option V} {L : Lay} {ops : Array Oper} {is : Array Ins} {Post : (Nat → V) → Prop} :
    ∀ (l : List Ins) (k : Nat) (listed : Array Bool) (ρ ρ' : Nat → V), (∀ j, l[j]? = is[k + j]?) → lexI L ops is l.length k listed = true → runI D L l ρ = some ρ' → Post ρ' →
      absAny D L ops is Post l.length listed ρ
  | [], k, listed, ρ, ρ', _, hB, hr, hP => ⟨by simpa [lexI] using hB, by simp only [runI, Option.some.injEq] at hr; rw [hr]; exact hP⟩
  | i :: l, k, listed, ρ, ρ', hl, hB, hr, hP => by
    have h0 : is.getD k default = i := by
      have := hl 0
      simp only [List.getElem?_cons_zero, Nat.add_zero] at this
      simp [Array.getD_eq_getD_getElem?, ← this]
    simp only [List.length_cons, lexI, Bool.and_eq_true] at hB
    obtain ⟨⟨hrd, hf⟩, hB'⟩ := hB
    unfold runI at hr
    obtain ⟨ws, hx, hr⟩ := Option.bind_eq_some_iff.1 hr
    refine absAny_first l.length listed ρ ws (freeI_spec hf) (by simpa using hrd) (by rw [h0]; exact hx) ?_
    exact absAny_lex l (k + 1) _ _ ρ' (fun j => by have := hl (j + 1); simpa [Nat.add_assoc, Nat.add_comm 1 j] using this) hB' hr hP
end Go.Proofs.YtmbdbkcifmkpbaaGreatDoor.Den
end
section
set_option linter.unusedVariables false
set_option linter.unnecessarySimpa false
set_option linter.unusedSimpArgs false
namespace Go.Proofs.YtmbdbkcifmkpbaaGreatDoor.Den
open Go Go.RowKit

/-- cells, in elements -/
def RowL (hot : Nat → Prop) (w : World) (sz : Nat) : List V → List Value → Prop
  | [], xs => xs = []
  | v :: l, xs => ∃ us rest, xs = us ++ rest ∧ us.length = sz ∧ relP hot w v us ∧ RowL hot w sz l rest
theorem RowL_mono {hot hot' : Nat → Prop} {w w' : World} (H : ∀ b, b < w.heap.size → ¬ hot b → ¬ hot' b ∧ w'.heap[b]? = w.heap[b]?) {sz : Nat} :
    ∀ (l : List V) (xs : List Value), RowL hot w sz l xs → RowL hot' w' sz l xs
  | [], xs, h => h
  | v :: l, xs, h => by
    obtain ⟨us, rest, h1, h2, h3, h4⟩ := h
    exact ⟨us, rest, h1, h2, relP_mono H v us h3, RowL_mono H l rest h4⟩
theorem RowL_length {hot : Nat → Prop} {w : World} {sz : Nat} : ∀ (l : List V) (xs : List Value), RowL hot w sz l xs → xs.length = l.length * sz
  | [], xs, h => by simp [show xs = [] from h]
  | v :: l, xs, h => by
    obtain ⟨us, rest, rfl, h2, _, h4⟩ := h
    rw [List.length_append, h2, RowL_length l rest h4, List.length_cons, Nat.add_mul]
    omega
theorem RowL_append {hot : Nat → Prop} {w : World} {sz : Nat} : ∀ (l l' : List V) (xs xs' : List Value), RowL hot w sz l xs → RowL hot w sz l' xs' → RowL hot w sz (l ++ l') (xs ++ xs')
  | [], l', xs, xs', h, h' => by rw [show xs = [] from h]; exact h'
  | v :: l, l', xs, xs', h, h' => by
    obtain ⟨us, rest, rfl, h2, h3, h4⟩ := h
    exact ⟨us, rest ++ xs', by simp, h2, h3, RowL_append l l' rest xs' h4 h'⟩
theorem RowL_get {hot : Nat → Prop} {w : World} {sz : Nat} : ∀ (l : List V) (xs : List Value), RowL hot w sz l xs → ∀ i v, l[i]? = some v →
    ∃ us, us.length = sz ∧ relP hot w v us ∧ ∀ j u, us[j]? = some u → xs[i * sz + j]? = some u
  | [], xs, h, i, v, hi => by simp at hi
  | v0 :: l, xs, h, i, v, hi => by
    obtain ⟨us, rest, rfl, h2, h3, h4⟩ := h
    cases i with
    | zero =>
      simp only [List.getElem?_cons_zero, Option.some.injEq] at hi
      subst hi
      refine ⟨us, h2, h3, fun j u hj => ?_⟩
      have hlt : j < us.length := (List.getElem?_eq_some_iff.1 hj).1
      rw [Nat.zero_mul, Nat.zero_add, List.getElem?_append_left hlt]
      exact hj
    | succ i =>
      rw [List.getElem?_cons_succ] at hi
      obtain ⟨us', g2, g3, g4⟩ := RowL_get l rest h4 i v hi
      refine ⟨us', g2, g3, fun j u hj => ?_⟩
      rw [List.getElem?_append_right (by rw [h2, Nat.add_mul]; omega)]
      rw [show (i + 1) * sz + j - us.length = i * sz + j by rw [h2, Nat.add_mul]; omega]
      exact g4 j u hj
/-- a row that lies in a block reads as its elements -/
theorem RowL_relRow {hot : Nat → Prop} {w : World} {b o sz : Nat} : ∀ (l : List V) (xs : List Value) (i : Nat), RowL hot w sz l xs → (∀ j u, xs[j]? = some u → w.cell? ⟨b, o + i * sz + j, none⟩ = some u) → relRow hot w b o sz i l
  | [], xs, i, h, hc => by unfold relRow; trivial
  | v :: l, xs, i, h, hc => by
    obtain ⟨us, rest, rfl, h2, h3, h4⟩ := h
    unfold relRow
    refine ⟨⟨us, h2, h3, fun j u hj => hc j u ?_⟩, RowL_relRow l rest (i + 1) h4 fun j u hj => ?_⟩
    · have hlt : j < us.length := (List.getElem?_eq_some_iff.1 hj).1
      rw [List.getElem?_append_left hlt]
      exact hj
    · have := hc (sz + j) u (by rw [List.getElem?_append_right (by omega), show sz + j - us.length = j by omega]; exact hj)
      rw [show o + (i + 1) * sz + j = o + i * sz + (sz + j) by rw [Nat.add_mul]; omega]
      exact this
theorem relRow_RowL {hot : Nat → Prop} {w : World} {b o sz : Nat} : ∀ (l : List V) (i : Nat), relRow hot w b o sz i l → ∃ xs, RowL hot w sz l xs ∧ ∀ j u, xs[j]? = some u → w.cell? ⟨b, o + i * sz + j, none⟩ = some u
  | [], i, h => ⟨[], rfl, fun j u hj => by simp at hj⟩
  | v :: l, i, h => by
    unfold relRow at h
    obtain ⟨⟨us, h1, h2, h3⟩, h4⟩ := h
    obtain ⟨rest, h5, h6⟩ := relRow_RowL l (i + 1) h4
    refine ⟨us ++ rest, ⟨us, rest, rfl, h1, h2, h5⟩, fun j u hj => ?_⟩
    by_cases hlt : j < us.length
    · rw [List.getElem?_append_left hlt] at hj
      exact h3 j u hj
    · rw [List.getElem?_append_right (by omega)] at hj
      have := h6 (j - us.length) u hj
      rw [show o + i * sz + j = o + (i + 1) * sz + (j - us.length) by rw [Nat.add_mul]; omega]
      exact this

/-- The layout is sound. -/
def layOk (L : Lay) : Bool :=
  decide (L.nt ≤ L.ab) && decide (L.ab ≤ L.nr) && (L.var.all fun v => decide (v.1 < L.nt) && decide (L.nt ≤ v.2.1) && decide (v.2.1 + v.2.2 ≤ L.ab) &&
    L.var.all fun u => decide (u = v) || (decide (u.1 ≠ v.1) && (decide (u.2.1 + u.2.2 ≤ v.2.1) || decide (v.2.1 + v.2.2 ≤ u.2.1))))

/-- a deferred call that does nothing when nothing panics -/
def Noop (P : Program) (d : Deferred) : Prop := ∃ fv cap f args, d.target = .fn fv cap ∧ ∀ w : World, (invoke d.target d.args).run P w = .ok (.enter f args) w ∧
  CallsD P f args .returning w (fun e u' w' => (∃ v, e = .returned v) ∧ u' = .returning ∧ Below w.heap.size w w')
/-- the function that is deferred so -/
def NF : Nat := 64
theorem leaves_noop {P : Program} {fn : Func} {tmps : Array Value} {R : Ending → World → Prop} : ∀ (ds : List Deferred) (w : World), (∀ d ∈ ds, Noop P d) → (∀ w', Below w.heap.size w w' → ∃ v, (results fn tmps).run P w' = .ok v w' ∧ R (.returned v) w') → Leaves P fn tmps R ds .returning w
  | [], w, _, h => h w (Below.refl _ _)
  | d :: ds, w, hn, h => by
    obtain ⟨fv, cap, f, args, ht, hc⟩ := hn d (List.mem_cons_self ..)
    obtain ⟨h1, h2⟩ := hc w
    refine ⟨by simp, fv, cap, f, args, ht, h1, h2.mono ?_⟩
    rintro e u' w' ⟨⟨v, rfl⟩, rfl, hB⟩
    exact leaves_noop ds w' (fun d hd => hn d (List.mem_cons_of_mem _ hd)) (fun w2 hB2 => h w2 (hB.trans (hB2.mono hB.size)))
structure St (P : Program) (L : Lay) (G : World → Prop) (w0 : World) (X0 : Nat → Prop) (C : Ctx) (ρ : Nat → V) (a : Act) (w : World) : Prop where
  tsz : a.tmps.size = L.nt
  defs : ∀ d ∈ a.defers, Noop P d
  tmp : ∀ t, t < L.nt → Rel C w (ρ t) (a.tmps.getD t undef)
  loc : ∀ id b, C.loc id = some b → w0.heap.size ≤ b ∧ ρ id = .ptr id 0 ∧ ∃ base n, (id, base, n) ∈ L.var ∧ ∃ us ty, w.heap[b]? = some (.cells us ty (0, 0)) ∧ us.size = n ∧
    ∀ j, j < n → Rel C w (ρ (base + j)) (us.getD j undef)
  arr : ∀ k x, C.arr k = some x → L.ab + k < L.nr ∧ ∃ l xs, ρ (L.ab + k) = .arr x.mu x.sz x.ty l ∧ l.length = x.n ∧ x.n ≤ big ∧ 0 < x.sz ∧ w.ownsRow w0.heap.size x.ty x.sz x.v x.n xs ∧ RowL C.hot w x.sz l xs
  arn : ∀ k q s e l, L.ab + k < L.nr → ρ (L.ab + k) = .arr q s e l → ∃ x, C.arr k = some x
  il : ∀ id id' b, C.loc id = some b → C.loc id' = some b → id = id'
  ila : ∀ id b k x, C.loc id = some b → C.arr k = some x → x.v.ownBlock ≠ some b
  ia : ∀ k k' x x' b, C.arr k = some x → C.arr k' = some x' → x.v.ownBlock = some b → x'.v.ownBlock = some b → k = k'
  ext : ∀ b, C.ext b → b < w0.heap.size
  below : Below w0.heap.size w0 w
  g : G w
  cx : C.ext = X0

section
variable {P : Program} {L : Lay} {G : World → Prop} {w0 : World} {X0 : Nat → Prop} {C : Ctx} {ρ : Nat → V} {a : Act} {w : World}
theorem ownsRow_lt {base : Nat} {ty : TypeId} {sz n : Nat} {v : Value} {xs : List Value} (h : w.ownsRow base ty sz v n xs) {b : Nat} (hb : v.ownBlock = some b) : base ≤ b ∧ b < w.heap.size := h.lt b hb
/-- A hot block is of the outside, or from the start on. -/
theorem St.hotlt (S : St P L G w0 X0 C ρ a w) {b : Nat} (h : C.hot b) : b < w.heap.size := by
  rcases h with h | ⟨id, h⟩ | ⟨k, x, h, _, hb⟩
  · exact Nat.lt_of_lt_of_le (S.ext b h) S.below.size
  · obtain ⟨_, _, base, n, _, us, ty, hg, _⟩ := S.loc id b h
    exact (Array.getElem?_eq_some_iff.1 hg).1
  · obtain ⟨_, l, xs, _, _, _, _, ho, _⟩ := S.arr k x h
    exact (ownsRow_lt ho hb).2

/-- The world grows; nothing that there was turns; the context is as it was. -/
theorem Le.below {w' : World} (h : Below w.heap.size w w') : Le C w C w' :=
  ⟨fun _ _ h => h, fun k x h => ⟨x, h, Nat.le_refl _, rfl, fun _ => rfl⟩, fun b hb hh => ⟨hh, h.block b hb⟩⟩
theorem ownsRow_below {w' : World} {base : Nat} {ty : TypeId} {sz n : Nat} {v : Value} {xs : List Value} (h : w.ownsRow base ty sz v n xs) (hb : ∀ b, v.ownBlock = some b → w'.heap[b]? = w.heap[b]?) : w'.ownsRow base ty sz v n xs := by
  obtain ⟨h1, h2⟩ := h
  refine ⟨h1, ?_⟩
  rcases h2 with h2 | ⟨g, cap, cur, hv, hg, hh, r⟩
  · exact .inl h2
  · exact .inr ⟨g, cap, cur, hv, hg, by rw [hb g (by rw [hv]; rfl)]; exact hh, r⟩
/-- The world grows, nothing that there was turns. -/
theorem St.grow (S : St P L G w0 X0 C ρ a w) {w' : World} (hB : Below w.heap.size w w') (hg : G w') : St P L G w0 X0 C ρ a w' := by
  have hle : Le C w C w' := Le.below hB
  refine ⟨S.tsz, S.defs, fun t ht => Rel_mono hle _ _ (S.tmp t ht), fun id b h => ?_, fun k x h => ?_, S.arn, S.il, S.ila, S.ia, S.ext, ?_, hg, S.cx⟩
  · obtain ⟨h1, h2, base, n, h3, us, ty, h4, h5, h6⟩ := S.loc id b h
    exact ⟨h1, h2, base, n, h3, us, ty, (hB.block b (Array.getElem?_eq_some_iff.1 h4).1).trans h4, h5, fun j hj => Rel_mono hle _ _ (h6 j hj)⟩
  · obtain ⟨h1, l, xs, h2, h3, h4, h5, h6, h7⟩ := S.arr k x h
    exact ⟨h1, l, xs, h2, h3, h4, h5, ownsRow_below h6 fun b hb => hB.block b (ownsRow_lt h6 hb).2, RowL_mono hle.cold l xs h7⟩
  · exact S.below.trans (hB.mono S.below.size)

theorem layOk_spec (h : layOk L = true) : L.nt ≤ L.ab ∧ L.ab ≤ L.nr ∧ (∀ id base n, (id, base, n) ∈ L.var → id < L.nt ∧ L.nt ≤ base ∧ base + n ≤ L.ab) ∧
    (∀ id base n id' base' n', (id, base, n) ∈ L.var → (id', base', n') ∈ L.var → (id' = id ∧ base' = base ∧ n' = n) ∨ (id' ≠ id ∧ (base' + n' ≤ base ∨ base + n ≤ base'))) := by
  unfold layOk at h
  simp only [Bool.and_eq_true, decide_eq_true_iff, List.all_eq_true, Bool.or_eq_true] at h
  obtain ⟨⟨h1, h2⟩, h3⟩ := h
  refine ⟨h1, h2, fun id base n hm => ?_, fun id base n id' base' n' hm hm' => ?_⟩
  · obtain ⟨⟨⟨h4, h5⟩, h6⟩, _⟩ := h3 _ hm
    exact ⟨h4, h5, h6⟩
  · rcases (h3 _ hm).2 _ hm' with h | ⟨h, h4⟩
    · simp only [Prod.mk.injEq] at h
      exact .inl h
    · exact .inr ⟨h, h4⟩

theorem act_put_get (a : Act) (d t : Nat) (u : Value) (hd : d < a.tmps.size) : ((a.put (some d) u).tmps).getD t undef = if t = d then u else a.tmps.getD t undef := by
  unfold Act.put
  simp only [Array.getD_eq_getD_getElem?, Array.getElem?_setIfInBounds]
  by_cases h : d = t
  · subst h; simp [hd]
  · rw [if_neg h, if_neg (Ne.symm h)]

/-- A temporary is written. -/
theorem St.put (S : St P L G w0 X0 C ρ a w) (hL : layOk L = true) {d : Option Nat} {v : V} {u : Value} (hd : ∀ t, d = some t → t < L.nt) (hs : dstB ρ d = true) (hv : Rel C w v u) :
    St P L G w0 X0 C (upd ρ (dstW v d)) (a.put d u) w := by
  obtain ⟨l1, l2, l3, _⟩ := layOk_spec hL
  cases d with
  | none => exact S
  | some d =>
    have hd := hd d rfl
    have hn : notSelf d (ρ d) = true := hs
    have e1 : ∀ t, t ≠ d → upd ρ (dstW v (some d)) t = ρ t := fun t h => upd_out _ _ _ (fun p hp => by simp [dstW] at hp; subst hp; exact Ne.symm h)
    have e2 : upd ρ (dstW v (some d)) d = v := by simp [dstW, upd, upd1]
    refine ⟨?_, S.defs, fun t ht => ?_, fun id b h => ?_, fun k x h => ?_, fun k q s e l hk h => ?_, S.il, S.ila, S.ia, S.ext, S.below, S.g, S.cx⟩
    · unfold Act.put; simp [S.tsz]
    · rw [act_put_get a d t u (by rw [S.tsz]; exact hd)]
      by_cases h : t = d
      · subst h; rw [e2, if_pos rfl]; exact hv
      · rw [e1 t h, if_neg h]; exact S.tmp t ht
    · obtain ⟨h1, h2, base, n, h3, us, ty, h4, h5, h6⟩ := S.loc id b h
      have hid : id ≠ d := fun e => by subst e; rw [h2] at hn; simp [notSelf] at hn
      obtain ⟨g1, g2, g3⟩ := l3 id base n h3
      refine ⟨h1, by rw [e1 id hid]; exact h2, base, n, h3, us, ty, h4, h5, fun j hj => ?_⟩
      rw [e1 (base + j) (by omega)]
      exact h6 j hj
    · obtain ⟨h1, l, xs, h2, h3⟩ := S.arr k x h
      exact ⟨h1, l, xs, by rw [e1 (L.ab + k) (by omega)]; exact h2, h3⟩
    · rw [e1 (L.ab + k) (by omega)] at h
      exact S.arn k q s e l hk h
end
end Go.Proofs.YtmbdbkcifmkpbaaGreatDoor.Den
end
section
set_option linter.unusedVariables false
set_option linter.unnecessarySimpa false
set_option linter.unusedSimpArgs false
namespace Go.Proofs.YtmbdbkcifmkpbaaGreatDoor.Den
open Go Go.RowKit

def chkSr (L : Lay) : Operand → Sr → Bool
  | .tmp t, .r t' => t == t' && decide (t < L.nt)
  | .const (.int k n), .i k' n' => k == k' && n == n'
  | .const (.bool b), .b b' => b == b'
  | .const (.slice none 0 0), .nil => true
  | .func f, .f f' => f == f'
  | _, _ => false
def chkSrs (L : Lay) : List Operand → List Sr → Bool
  | [], [] => true
  | x :: xs, y :: ys => chkSr L x y && chkSrs L xs ys
  | _, _ => false
def sizeIs (P : Program) (t : TypeId) (n : Nat) : Bool := (P.info? t).map (·.size) == some n
def aggIs (P : Program) (t : TypeId) (g : Bool) : Bool :=
  match P.underlying t with
  | some (.struct _) | some (.array _ _) => g
  | some _ => !g
  | none => false
def cellIs : Value → V → Bool
  | .bool b, .bool b' => b == b'
  | .int k n, .int k' n' => k == k' && n == n'
  | .slice none 0 0, .nil0 => true
  | .string s, .str s' => s.data.toList == s'.data.toList
  | _, _ => false
def cellsAre : List Value → List V → Bool
  | [], [] => true
  | u :: us, v :: vs => cellIs u v && cellsAre us vs
  | _, _ => false
def zeroIs (P : Program) (t : TypeId) (z : List V) : Bool :=
  match (P.info? t).bind (·.zero) with
  | some u => cellsAre u.cells.toList z
  | none => false
def fieldIs (P : Program) (s : TypeId) (f off n : Nat) (g : Bool) : Bool :=
  match P.underlying s with
  | some (.struct fs) => match fs[f]? with
    | some fd => fd.offset == off && sizeIs P fd.type n && aggIs P fd.type g && decide (0 < n)
    | none => false
  | _ => false
def elemIs (P : Program) (t : TypeId) (n : Nat) : Bool :=
  match P.underlying t with
  | some (.slice e) => sizeIs P e n && decide (0 < n)
  | _ => false
def fadIs (P : Program) (s : TypeId) (f off : Nat) : Bool :=
  match P.underlying s with
  | some (.struct fs) => match fs[f]? with
    | some fd => fd.offset == off && (match P.info? fd.type with | some i => decide (0 < i.size) | none => false)
    | none => false
  | _ => false

section
variable {P : Program} {L : Lay} {G : World → Prop} {w0 : World} {X0 : Nat → Prop} {C : Ctx} {ρ : Nat → V} {a : Act} {w : World}

theorem ev_rel (S : St P L G w0 X0 C ρ a w) {x : Operand} {y : Sr} (h : chkSr L x y = true) : Rel C w (ev ρ y) (a.eval x) := by
  unfold chkSr at h
  split at h
  · rename_i t t'
    simp only [Bool.and_eq_true, beq_iff_eq, decide_eq_true_iff] at h
    obtain ⟨rfl, h⟩ := h
    exact S.tmp t h
  · simp only [Bool.and_eq_true, beq_iff_eq] at h
    obtain ⟨rfl, rfl⟩ := h
    unfold ev Rel Act.eval; rfl
  · simp only [beq_iff_eq] at h
    subst h
    unfold ev Rel Act.eval; rfl
  · unfold ev Rel Act.eval; rfl
  · simp only [beq_iff_eq] at h
    subst h
    unfold ev Rel Act.eval; rfl
  · cases h
theorem evs_rel (S : St P L G w0 X0 C ρ a w) : ∀ {xs : List Operand} {ys : List Sr}, chkSrs L xs ys = true → RelL C w (ys.map (ev ρ)) (xs.map a.eval)
  | [], [], h => by unfold RelL; rfl
  | x :: xs, y :: ys, h => by
    unfold chkSrs at h
    rw [Bool.and_eq_true] at h
    unfold RelL
    exact ⟨_, _, rfl, ev_rel S h.1, evs_rel S h.2⟩
  | [], _ :: _, h => by simp [chkSrs] at h
  | _ :: _, [], h => by simp [chkSrs] at h

theorem Rel_int {k : IntKind} {n : Int} {u : Value} (h : Rel C w (.int k n) u) : u = .int k n := by unfold Rel at h; exact h
theorem Rel_bool {b : Bool} {u : Value} (h : Rel C w (.bool b) u) : u = .bool b := by unfold Rel at h; exact h
theorem Rel_mkint (k : IntKind) (n : Int) : Rel C w (.int k n) (.int k n) := by unfold Rel; rfl
theorem Rel_mkbool (b : Bool) : Rel C w (.bool b) (.bool b) := by unfold Rel; rfl

/-- one cell of a value without memory of its own -/
theorem relP_Rel1 {v : V} {u : Value} (hc : cellB v = true) (h : relP C.hot w v [u]) : Rel C w v u := by
  cases v <;> simp only [cellB] at hc <;> try (cases hc)
  all_goals first
    | (unfold relP at h; unfold Rel; simpa using h)
    | (unfold Rel; exact h)
    | (unfold relP at h; exact h.elim)
theorem relPL_RelL : ∀ (l : List V) (us : List Value), relPL C.hot w l us → RelL C w l us
  | [], us, h => by unfold relPL at h; unfold RelL; exact h
  | v :: l, us, h => by
    unfold relPL at h
    obtain ⟨u, us', e, hc, h1, h2⟩ := h
    unfold RelL
    exact ⟨u, us', e, relP_Rel1 hc h1, relPL_RelL l us' h2⟩
/-- the cells of an element -/
theorem relP_cells {v : V} {us : List Value} (h : relP C.hot w v us) : RelL C w (cellsV v) us := by
  cases v with
  | agg l => unfold relP at h; exact relPL_RelL l us h
  | bool b => unfold relP at h; subst h; unfold cellsV RelL; exact ⟨_, [], rfl, Rel_mkbool b, by unfold RelL; rfl⟩
  | int k n => unfold relP at h; subst h; unfold cellsV RelL; exact ⟨_, [], rfl, Rel_mkint k n, by unfold RelL; rfl⟩
  | fn f => unfold relP at h; subst h; unfold cellsV RelL; exact ⟨_, [], rfl, by unfold Rel; rfl, by unfold RelL; rfl⟩
  | str s => unfold relP at h; subst h; unfold cellsV RelL; exact ⟨_, [], rfl, by unfold Rel; rfl, by unfold RelL; rfl⟩
  | nil0 => unfold relP at h; subst h; unfold cellsV RelL; exact ⟨_, [], rfl, by unfold Rel; rfl, by unfold RelL; rfl⟩
  | lst l =>
    have h' := h
    unfold relP at h'
    obtain ⟨A, c, rfl, _⟩ := h'
    unfold cellsV RelL
    exact ⟨_, [], rfl, by unfold Rel; exact h, by unfold RelL; rfl⟩
  | dead => unfold relP at h; exact h.elim
  | tup l => unfold relP at h; exact h.elim
  | own k n => unfold relP at h; exact h.elim
  | ptr id off => unfold relP at h; exact h.elim
  | ept l i off => unfold relP at h; exact h.elim
  | epo k n i off => unfold relP at h; exact h.elim
  | arr q s e l => unfold relP at h; exact h.elim
theorem RelL_drop : ∀ (n : Nat) (l : List V) (us : List Value), RelL C w l us → RelL C w (l.drop n) (us.drop n)
  | 0, l, us, h => h
  | n + 1, [], us, h => by unfold RelL at h; subst h; simp; unfold RelL; rfl
  | n + 1, v :: l, us, h => by
    unfold RelL at h
    obtain ⟨u, us', rfl, _, h2⟩ := h
    exact RelL_drop n l us' h2
theorem RelL_take : ∀ (n : Nat) (l : List V) (us : List Value), RelL C w l us → RelL C w (l.take n) (us.take n)
  | 0, l, us, h => by unfold RelL; simp
  | n + 1, [], us, h => by unfold RelL at h; subst h; unfold RelL; simp
  | n + 1, v :: l, us, h => by
    unfold RelL at h
    obtain ⟨u, us', rfl, h1, h2⟩ := h
    simp only [List.take_succ_cons]
    unfold RelL
    exact ⟨u, _, rfl, h1, RelL_take n l us' h2⟩
theorem RelL_at {l : List V} {us : List Value} (h : RelL C w l us) {j : Nat} (hj : j < l.length) : ∃ u, us[j]? = some u ∧ Rel C w (l.getD j .dead) u := by
  have hl := RelL_length l us h
  refine ⟨us.getD j default, ?_, RelL_get l us h j hj⟩
  rw [List.getD_eq_getElem?_getD, List.getElem?_eq_getElem (by omega)]
  rfl
theorem RelL_append : ∀ (l l' : List V) (us us' : List Value), RelL C w l us → RelL C w l' us' → RelL C w (l ++ l') (us ++ us')
  | [], l', us, us', h, h' => by unfold RelL at h; subst h; exact h'
  | v :: l, l', us, us', h, h' => by
    unfold RelL at h
    obtain ⟨u, us2, rfl, h1, h2⟩ := h
    simp only [List.cons_append]
    unfold RelL
    exact ⟨u, _, rfl, h1, RelL_append l l' us2 us' h2 h'⟩

/-- carried out -/
def Goes (P : Program) (o : Oper) (a : Act) (w : World) (Φ : Value → World → Prop) : Prop :=
  match (execOp a.eval o).run P w with
  | .ok (.value u) w' => Φ u w'
  | .ok .skip w' => Φ undef w'
  | .ok (.enter f args) w' => Calls P f args w' (fun e w'' => ∃ u, e = .returned u ∧ Φ u w'')
  | _ => False
theorem Goes.wp {o : Oper} {Φ : Value → World → Prop} (h : Goes P o a w Φ) {K : Act → World → Prop} {Q : Exit → Act → World → Prop} (hK : ∀ u w', Φ u w' → K (a.put o.dst u) w') : o.wp P a w K Q := by
  unfold Goes at h
  unfold Oper.wp
  generalize (execOp a.eval o).run P w = r at h
  cases r with
  | halt x w' => exact h.elim
  | ok n w' =>
    cases n <;> simp only [Oper.upon] at h ⊢ <;> try (exact h.elim)
    · exact hK _ _ h
    · exact hK _ _ h
    · exact Calls.mono h fun e w'' ⟨u, e1, h1⟩ => by subst e1; exact hK _ _ h1
theorem Goes.of {o : Oper} {Φ : Value → World → Prop} {u : Value} {w' : World} (hr : (execOp a.eval o).run P w = .ok (.value u) w') (h : Φ u w') : Goes P o a w Φ := by
  unfold Goes; rw [hr]; exact h
theorem Goes.skip {o : Oper} {Φ : Value → World → Prop} {w' : World} (hr : (execOp a.eval o).run P w = .ok .skip w') (h : Φ undef w') : Goes P o a w Φ := by
  unfold Goes; rw [hr]; exact h

theorem run_isAgg {t : TypeId} {g : Bool} (h : aggIs P t g = true) : (isAgg t).run P w = .ok g w := by
  unfold aggIs at h
  unfold isAgg
  cases hu : P.underlying t with
  | none => rw [hu] at h; cases h
  | some d =>
    rw [hu] at h
    rw [Sem.run_bind, run_underlying hu w]
    cases d <;> simp only at h <;> first
      | (subst h; simp)
      | (simp at h; subst h; simp)
theorem sizeIs_run {t : TypeId} {n : Nat} (h : sizeIs P t n = true) : (sizeOf t).run P w = .ok n w := by
  unfold sizeIs at h
  simp only [beq_iff_eq] at h
  cases hi : P.info? t with
  | none => rw [hi] at h; simp at h
  | some i =>
    rw [hi] at h
    simp only [Option.map_some, Option.some.injEq] at h
    simp [sizeOf, typeInfo, hi, h]
theorem aggIs_row {t : TypeId} (h : aggIs P t true = true) : ∃ d, P.underlying t = some d ∧ d.isRow = true := by
  unfold aggIs at h
  cases hu : P.underlying t with
  | none => rw [hu] at h; cases h
  | some d =>
    rw [hu] at h
    refine ⟨d, rfl, ?_⟩
    cases d <;> first | rfl | (simp at h)
/-- a variable is read -/
theorem run_load_cells {t : TypeId} {b o n : Nat} {g : Bool} {us : List Value} (hs : sizeIs P t n = true) (ha : aggIs P t g = true) (hl : us.length = n) (h0 : g = false → 0 < n)
    (hc : ∀ j u, us[j]? = some u → w.cell? ⟨b, o + j, none⟩ = some u) :
    (Instr.loadAt t (.pointer (some ⟨b, o, none⟩))).run P w = .ok (if g then .agg us.toArray else us.getD 0 undef) w := by
  cases g with
  | true =>
    obtain ⟨d, hd, hr⟩ := aggIs_row ha
    have := run_loadAt_mid (P := P) w b o t us d hc hd hr (by rw [hl]; simpa [sizeIs] using hs)
    simpa using this
  | false =>
    have h0 := h0 rfl
    obtain ⟨u, hu⟩ : ∃ u, us[0]? = some u := ⟨us[0], List.getElem?_eq_getElem (by omega)⟩
    have hcell := hc 0 u hu
    have hg : us.getD 0 undef = u := by rw [List.getD_eq_getElem?_getD, hu]; rfl
    rw [hg]
    simp only [Nat.add_zero] at hcell
    simp [Instr.loadAt, Instr.sureAddr, loadVar, run_isAgg ha, run_load, hcell]

theorem elems_own {ra : Bool} {k n : Nat} {l : List V} (S : St P L G w0 X0 C ρ a w) (h : ownE L ρ ra k n = some l) :
    ∃ x xs, C.arr k = some x ∧ L.ab + k < L.nr ∧ ρ (L.ab + k) = .arr x.mu x.sz x.ty l ∧ n = l.length ∧ l.length = x.n ∧ x.n ≤ big ∧ 0 < x.sz ∧ w.ownsRow w0.heap.size x.ty x.sz x.v x.n xs ∧ RowL C.hot w x.sz l xs := by
  have hlt := (ownE_lt h).2
  unfold ownE at h
  split at h
  · split at h
    · rename_i q s' e' l' e
      split at h
      · rename_i hn
        simp only [Option.some.injEq] at h
        subst h
        obtain ⟨x, hx⟩ := S.arn k q _ _ _ hlt e
        obtain ⟨_, l2, xs, e2, h2, h3, h4, h5, h6⟩ := S.arr k x hx
        rw [e2] at e
        injection e with e3 e5 e6 e4
        subst e4
        exact ⟨x, xs, hx, hlt, e2, hn, h2, h3, h4, h5, h6⟩
      · simp at h
    · simp at h
  · simp at h
/-- a slice's length -/
theorem elems_len {ra : Bool} {v : V} {l : List V} {u : Value} (S : St P L G w0 X0 C ρ a w) (h : elems L ρ ra v = some l) (hr : Rel C w v u) : ∃ A c, u = .slice A l.length c ∧ l.length ≤ c ∧ l.length ≤ big := by
  cases v with
  | nil0 =>
    simp only [elems, Option.some.injEq] at h
    subst h
    unfold Rel at hr
    subst hr
    exact ⟨none, 0, rfl, Nat.le_refl _, Nat.zero_le _⟩
  | lst l' =>
    simp only [elems, Option.some.injEq] at h
    subst h
    unfold Rel relP at hr
    obtain ⟨A, c, e, h1, h2, _⟩ := hr
    simp only [List.cons.injEq, and_true] at e
    exact ⟨A, c, e, h1, h2⟩
  | own k n =>
    obtain ⟨x, xs, hx, _, _, hn, hl, hb, _, ho, _⟩ := elems_own S h
    unfold Rel at hr
    obtain ⟨x', hx', _, _, hu⟩ := hr
    rw [hx] at hx'
    injection hx' with hx'
    subst hx'
    rw [hu (by omega)]
    rcases ho.2 with ⟨e, h0⟩ | ⟨g, cap, cur, e, _, _, h3, _⟩
    · exact ⟨none, 0, by rw [e, hl, h0], by omega, by omega⟩
    · exact ⟨_, cap, by rw [e, hl], by omega, by omega⟩
  | dead => simp [elems] at h
  | bool _ => simp [elems] at h
  | int _ _ => simp [elems] at h
  | fn _ => simp [elems] at h
  | str _ => simp [elems] at h
  | agg _ => simp [elems] at h
  | tup _ => simp [elems] at h
  | ptr _ _ => simp [elems] at h
  | ept _ _ _ => simp [elems] at h
  | epo _ _ _ _ => simp [elems] at h
  | arr _ _ _ _ => simp [elems] at h

theorem cellIs_Rel {u : Value} {v : V} (h : cellIs u v = true) : Rel C w v u ∧ cellB v = true ∧ u.oneCell' = true ∧ relP C.hot w v [u] := by
  unfold cellIs at h
  split at h
  · simp only [beq_iff_eq] at h; subst h; exact ⟨Rel_mkbool _, rfl, rfl, by unfold relP; rfl⟩
  · simp only [Bool.and_eq_true, beq_iff_eq] at h; obtain ⟨rfl, rfl⟩ := h; exact ⟨Rel_mkint _ _, rfl, rfl, by unfold relP; rfl⟩
  · exact ⟨by unfold Rel; rfl, rfl, rfl, by unfold relP; rfl⟩
  · rename_i s s'
    simp only [beq_iff_eq] at h
    have : s = s' := by
      cases s; cases s'
      simp only [ByteArray.mk.injEq]
      exact Array.ext' (by simpa using h)
    subst this
    exact ⟨by unfold Rel; rfl, rfl, rfl, by unfold relP; rfl⟩
  · cases h
theorem cellsAre_Rel : ∀ {us : List Value} {vs : List V}, cellsAre us vs = true → RelL C w vs us ∧ allCell vs = true ∧ (∀ u ∈ us, u.oneCell' = true) ∧ relPL C.hot w vs us
  | [], [], h => ⟨by unfold RelL; rfl, rfl, by simp, by unfold relPL; rfl⟩
  | u :: us, v :: vs, h => by
    unfold cellsAre at h
    rw [Bool.and_eq_true] at h
    obtain ⟨h1, h2⟩ := h
    obtain ⟨a1, a2, a3, a4⟩ := cellIs_Rel (C := C) (w := w) h1
    obtain ⟨b1, b2, b3, b4⟩ := cellsAre_Rel h2
    refine ⟨by unfold RelL; exact ⟨u, us, rfl, a1, b1⟩, by unfold allCell; rw [a2, b2]; rfl, fun x hx => ?_, by unfold relPL; exact ⟨u, us, rfl, a2, a4, b4⟩⟩
    rcases List.mem_cons.1 hx with rfl | hx
    · exact a3
    · exact b3 x hx
  | [], _ :: _, h => by simp [cellsAre] at h
  | _ :: _, [], h => by simp [cellsAre] at h
/-- one cell, as a value -/
theorem Rel_one {v : V} {u : Value} (hc : cellB v = true) (h : Rel C w v u) (S : St P L G w0 X0 C ρ a w) : u.oneCell' = true := by
  cases v <;> simp only [cellB] at hc <;> try (cases hc)
  · rw [Rel_bool h]; rfl
  · rw [Rel_int h]; rfl
  · unfold Rel at h; rw [h]; rfl
  · unfold Rel at h; rw [h]; rfl
  · unfold Rel at h; rw [h]; rfl
  · unfold Rel relP at h; obtain ⟨A, c, e, _⟩ := h; simp only [List.cons.injEq, and_true] at e; rw [e]; rfl
  · unfold Rel at h; obtain ⟨x, _, _, h, _⟩ := h; exact h
theorem Rel_ones {vs : List V} {us : List Value} (S : St P L G w0 X0 C ρ a w) (hc : allCell vs = true) (h : RelL C w vs us) : ∀ u ∈ us, u.oneCell' = true := by
  induction vs generalizing us with
  | nil => unfold RelL at h; subst h; simp
  | cons v vs ih =>
    unfold RelL at h
    obtain ⟨u, us', rfl, h1, h2⟩ := h
    unfold allCell at hc
    rw [Bool.and_eq_true] at hc
    intro x hx
    rcases List.mem_cons.1 hx with rfl | hx
    · exact Rel_one hc.1 h1 S
    · exact ih hc.2 h2 x hx
end
end Go.Proofs.YtmbdbkcifmkpbaaGreatDoor.Den
end
section
set_option linter.unusedVariables false
set_option linter.unnecessarySimpa false
set_option linter.unusedSimpArgs false
namespace Go.Proofs.YtmbdbkcifmkpbaaGreatDoor.Den
open Go Go.RowKit

def isBoolT (P : Program) (t : TypeId) : Bool := match P.underlying t with | some .bool => true | _ => false
def intIs (P : Program) (t : TypeId) (k : IntKind) : Bool := match P.underlying t with | some (.int k') => k == k' | _ => false
def isSliceT (P : Program) (t : TypeId) : Bool := match P.underlying t with | some (.slice _) => true | _ => false
def chkOpt (L : Lay) : Option Operand → Option Sr → Bool
  | none, none => true
  | some x, some y => chkSr L x y
  | _, _ => false
section
variable {P : Program} {L : Lay} {G : World → Prop} {w0 : World} {X0 : Nat → Prop} {C : Ctx} {ρ : Nat → V} {a : Act} {w : World}

theorem run_equal_bool {t : TypeId} (hu : P.underlying t = some .bool) (p q : Bool) : (Op.equal t (.bool p) (.bool q)).run P w = .ok (p == q) w := by
  show (Op.equalIn (9999 + 1) t (.bool p) (.bool q)).run P w = _
  rw [Op.equalIn, Sem.run_bind, run_underlying hu]
  rfl
theorem run_bin {tb : Bool} {o : BinOp} {x y v : V} {u u' : Value} {t : TypeId} (hx : Rel C w x u) (hy : Rel C w y u') (ht : tb = true → isBoolT P t = true) (h : binV tb o x y = some v) (X Y : Operand) :
    ∃ r, ((do eqGuard o t X Y u u'; binOp o t u u' : Sem Value)).run P w = .ok r w ∧ Rel C w v r := by
  unfold binV at h
  split at h
  · rename_i k p k' q
    rw [Rel_int hx, Rel_int hy]
    have hg : ∀ (o : BinOp), (eqGuard o t X Y (.int k p) (.int k' q)).run P w = .ok () w := fun o => by cases o <;> rfl
    suffices hb : ∃ r, Rel C w v r ∧ (binOp o t (.int k p) (.int k' q)).run P w = .ok r w by
      obtain ⟨r, h1, h2⟩ := hb
      exact ⟨r, by rw [Sem.run_bind, hg o]; exact h2, h1⟩
    cases o <;> dsimp only at h <;> (first
      | (split at h
         · simp at h
         · rename_i hq
           simp only [Option.some.injEq] at h
           subst h
           exact ⟨_, Rel_mkint _ _, by simp [binOp, Op.shift, hq]⟩)
      | (split at h
         · rename_i hk
           first
             | (obtain ⟨hk, hq⟩ := hk
                simp only [Option.some.injEq] at h
                subst hk; subst h
                exact ⟨_, Rel_mkint _ _, by simp [binOp, Op.intDiv, hq]⟩)
             | (simp only [Option.some.injEq] at h
                subst hk; subst h
                first
                  | exact ⟨_, Rel_mkint _ _, by simp [binOp, Op.intArith, Op.intBits]⟩
                  | exact ⟨_, Rel_mkbool _, by simp [binOp, Op.intCmp]⟩)
         · simp at h))
  · rename_i p q
    rw [Rel_bool hx, Rel_bool hy]
    split at h
    · rename_i htb
      have hu : P.underlying t = some .bool := by
        have := ht htb
        unfold isBoolT at this
        split at this
        · assumption
        · cases this
      cases o <;> simp only [Option.some.injEq, reduceCtorEq] at h <;> subst h
      · refine ⟨.bool (p == q), ?_, Rel_mkbool _⟩
        have hg : (eqGuard .eql t X Y (.bool p) (.bool q)).run P w = .ok () w := rfl
        rw [Sem.run_bind, hg]
        simp [binOp, run_equal_bool hu]
      · refine ⟨.bool (!(p == q)), ?_, Rel_mkbool _⟩
        have hg : (eqGuard .neq t X Y (.bool p) (.bool q)).run P w = .ok () w := rfl
        rw [Sem.run_bind, hg]
        simp [binOp, run_equal_bool hu]
    · simp at h
  · simp at h
theorem run_un {o : UnOp} {x v : V} {u : Value} (hx : Rel C w x u) (h : unV o x = some v) : ∃ r, (Op.unary o u).run P w = .ok r w ∧ Rel C w v r := by
  unfold unV at h
  split at h
  · rw [Rel_int hx]
    cases o <;> simp only [Option.some.injEq, reduceCtorEq] at h <;> subst h
    · exact ⟨_, by simp [Op.unary, Op.intArith], Rel_mkint _ _⟩
    · exact ⟨_, by simp [Op.unary, Op.intBits], Rel_mkint _ _⟩
  · rw [Rel_bool hx]
    cases o <;> simp only [Option.some.injEq, reduceCtorEq] at h
    subst h
    exact ⟨_, by simp [Op.unary], Rel_mkbool _⟩
  · simp at h
theorem run_conv {s d : TypeId} {k k' : IntKind} {n : Int} (h1 : (P.underlying s).isSome = true) (h2 : intIs P d k = true) : (convert s d (.int k' n)).run P w = .ok (.int k (k.wrap n)) w := by
  unfold intIs at h2
  split at h2
  · rename_i k2 e
    simp only [beq_iff_eq] at h2
    subst h2
    obtain ⟨sd, hs⟩ := Option.isSome_iff_exists.1 h1
    simp [convert, run_underlying hs, run_underlying e, Conv.intToInt]
  · cases h2
theorem run_field {s : TypeId} {f off n : Nat} {g : Bool} {l : List V} {us : List Value} (h : fieldIs P s f off n g = true) (hr : RelL C w l us) (hx : off + n ≤ l.length) :
    ∃ r, (Instr.field s (.agg us.toArray) f).run P w = .ok r w ∧ Rel C w (if g then .agg ((l.drop off).take n) else l.getD off .dead) r := by
  unfold fieldIs at h
  split at h
  · rename_i fs hu
    split at h
    · rename_i fd hf
      simp only [Bool.and_eq_true, beq_iff_eq, decide_eq_true_iff] at h
      obtain ⟨⟨⟨h1, h2⟩, h3⟩, h4⟩ := h
      subst h1
      have hl := RelL_length l us hr
      cases g with
      | true =>
        refine ⟨.agg ((us.drop fd.offset).take n).toArray, ?_, ?_⟩
        · simp [Instr.field, run_underlying hu, hf, asAgg, part, run_isAgg h3, sizeIs_run h2]
        · rw [if_pos rfl]
          unfold Rel
          exact ⟨_, rfl, RelL_take _ _ _ (RelL_drop _ _ _ hr)⟩
      | false =>
        obtain ⟨u, hu2, hu3⟩ := RelL_at hr (show fd.offset < l.length by omega)
        refine ⟨u, ?_, by simpa using hu3⟩
        simp [Instr.field, run_underlying hu, hf, asAgg, part, run_isAgg h3, hu2]
    · cases h
  · cases h
def idxIs (P : Program) (t : TypeId) (n len : Nat) : Bool :=
  match P.underlying t with
  | some (.array len' e) => decide (len' = len) && (sizeIs P e n && aggIs P e true)
  | _ => false
theorem run_index {t : TypeId} {n len : Nat} {k : IntKind} {j : Int} {l : List V} {us : List Value} (h : idxIs P t n len = true) (hr : RelL C w l us) (h0 : 0 ≤ j) (h1 : j < len) :
    ∃ r, (Instr.index t (.agg us.toArray) (.int k j)).run P w = .ok r w ∧ Rel C w (.agg ((l.drop (j.toNat * n)).take n)) r := by
  unfold idxIs at h
  split at h
  · rename_i len' e hu
    simp only [Bool.and_eq_true, decide_eq_true_iff] at h
    obtain ⟨rfl, h2, h3⟩ := h
    refine ⟨.agg ((us.drop (j.toNat * n)).take n).toArray, ?_, ?_⟩
    · simp [Instr.index, run_underlying hu, asIntOf, part, run_isAgg h3, sizeIs_run h2, h0, h1]
    · unfold Rel
      exact ⟨_, rfl, RelL_take _ _ _ (RelL_drop _ _ _ hr)⟩
  · cases h
theorem run_fieldAddr {s : TypeId} {f off : Nat} {b o : Nat} (h : fadIs P s f off = true) :
    (Instr.fieldAt s (.pointer (some ⟨b, o, none⟩)) f).run P w = .ok (.pointer (some ⟨b, o + off, none⟩)) w := by
  unfold fadIs at h
  split at h
  · rename_i fs hu
    split at h
    · rename_i fd hf
      simp only [Bool.and_eq_true, beq_iff_eq] at h
      obtain ⟨h1, h2⟩ := h
      subst h1
      split at h2
      · rename_i i hi
        rw [decide_eq_true_iff] at h2
        have hz : (sizeOf fd.type).run P w = .ok i.size w := by simp [sizeOf, typeInfo, hi]
        have hn : i.size ≠ 0 := by omega
        simp [Instr.fieldAt, run_underlying hu, hf, Instr.sureAddr, fieldPlace, hz, hn, Addr.add_mid]
      · cases h2
    · cases h
  · cases h
end
end Go.Proofs.YtmbdbkcifmkpbaaGreatDoor.Den
end
section
set_option linter.unusedVariables false
set_option linter.unnecessarySimpa false
set_option linter.unusedSimpArgs false
namespace Go.Proofs.YtmbdbkcifmkpbaaGreatDoor.Den
open Go Go.RowKit
section
variable {P : Program} {L : Lay} {G : World → Prop} {w0 : World} {X0 : Nat → Prop} {C : Ctx} {ρ : Nat → V} {a : Act} {w : World}

theorem relRow_get {hot : Nat → Prop} {b o sz : Nat} : ∀ (l : List V) (i : Nat), relRow hot w b o sz i l → ∀ j v, l[j]? = some v →
    ∃ us, us.length = sz ∧ relP hot w v us ∧ ∀ q u, us[q]? = some u → w.cell? ⟨b, o + (i + j) * sz + q, none⟩ = some u
  | [], i, h, j, v, hj => by simp at hj
  | v0 :: l, i, h, j, v, hj => by
    unfold relRow at h
    obtain ⟨⟨us, h1, h2, h3⟩, h4⟩ := h
    cases j with
    | zero =>
      simp only [List.getElem?_cons_zero, Option.some.injEq] at hj
      subst hj
      exact ⟨us, h1, h2, h3⟩
    | succ j =>
      rw [List.getElem?_cons_succ] at hj
      obtain ⟨us', g1, g2, g3⟩ := relRow_get l (i + 1) h4 j v hj
      exact ⟨us', g1, g2, fun q u hq => by rw [show i + (j + 1) = i + 1 + j by omega]; exact g3 q u hq⟩
theorem relP_size {v : V} {us : List Value} (h : relP C.hot w v us) : us.length = sizeV v := by
  rw [RelL_length _ _ (relP_cells h)]; rfl
theorem sizesB_get {n : Nat} : ∀ {l : List V}, sizesB n l = true → ∀ (j : Nat) (v : V), l[j]? = some v → sizeV v = n
  | [], h, j, v, hj => by simp at hj
  | v0 :: l, h, j, v, hj => by
    unfold sizesB at h
    rw [Bool.and_eq_true, decide_eq_true_iff] at h
    cases j with
    | zero => simp only [List.getElem?_cons_zero, Option.some.injEq] at hj; subst hj; exact h.1
    | succ j => rw [List.getElem?_cons_succ] at hj; exact sizesB_get h.2 j v hj

theorem run_eat {t : TypeId} {n : Nat} {k : IntKind} {j : Int} {b o : Nat} {len c : Nat} (h : elemIs P t n = true) (h0 : 0 ≤ j) (h1 : j < len) :
    (Instr.indexAt t (.slice (some ⟨b, o, none⟩) len c) (.int k j)).run P w = .ok (.pointer (some ⟨b, o + j.toNat * n, none⟩)) w := by
  unfold elemIs at h
  split at h
  · rename_i e hu
    simp only [Bool.and_eq_true, decide_eq_true_iff] at h
    simp [Instr.indexAt, run_underlying hu, asIntOf, h0, h1, sizeIs_run h.1, Addr.add_mid]
  · cases h
/-- an element's address -/
theorem sim_eat {D : Nat → List V → Option V} {ra : Bool} {x y : Sr} {X Y : Operand} {n : Nat} {t : TypeId} {d : Option Nat} {v : V} {ws : Wr} (S : St P L G w0 X0 C ρ a w) (hx : chkSr L X x = true) (hy : chkSr L Y y = true) (ht : elemIs P t n = true)
    (h : opV D L ρ d (.eat ra x y n) = some (v, ws)) : ws = [] ∧ ∃ u, (Instr.indexAt t (a.eval X) (a.eval Y)).run P w = .ok u w ∧ Rel C w v u := by
  have hX := ev_rel S hx
  have hY := ev_rel S hy
  unfold opV at h
  dsimp only at h
  split at h
  · rename_i k j e
    rw [e] at hY
    rw [Rel_int hY]
    split at h
    · rename_i h0
      split at h
      · rename_i l e2
        rw [e2] at hX
        split at h
        · rename_i v' hv
          split at h
          · rename_i hsz
            simp only [Option.some.injEq, Prod.mk.injEq] at h
            obtain ⟨rfl, rfl⟩ := h
            refine ⟨rfl, ?_⟩
            unfold Rel relP at hX
            obtain ⟨A, c, e3, h1, h2, h3⟩ := hX
            simp only [List.cons.injEq, and_true] at e3
            have hj : j.toNat < l.length := (List.getElem?_eq_some_iff.1 hv).1
            rcases h3 with h3 | ⟨b, o, sz, eA, hs, hh, hr⟩
            · subst h3; simp at hj
            · obtain ⟨us, g1, g2, _⟩ := relRow_get l 0 hr j.toNat v' hv
              have hn : sz = n := by rw [← g1, relP_size g2]; exact hsz
              subst hn
              rw [e3, eA]
              refine ⟨_, run_eat ht h0 (by omega), ?_⟩
              unfold Rel
              exact ⟨b, o, sz, hs, hh, hr, hj, by rw [Nat.add_zero]⟩
          · simp at h
        · simp at h
      · rename_i k' m e2
        rw [e2] at hX
        split at h
        · rename_i l hl
          obtain ⟨z, xs, hz, hlt, e3, hm, hzn, hzb, hz0, ho, hrow⟩ := elems_own S hl
          split at h
          · rename_i v' hv
            split at h
            · rename_i hsz
              simp only [Option.some.injEq, Prod.mk.injEq] at h
              obtain ⟨rfl, rfl⟩ := h
              refine ⟨rfl, ?_⟩
              have hj : j.toNat < l.length := (List.getElem?_eq_some_iff.1 hv).1
              unfold Rel at hX
              obtain ⟨z', hz', _, _, hu⟩ := hX
              rw [hz] at hz'
              injection hz' with hz'
              subst hz'
              rw [hu (by omega)]
              obtain ⟨us, g1, g2, _⟩ := RowL_get l xs hrow j.toNat v' hv
              have hn : z.sz = n := by rw [← g1, relP_size g2]; exact hsz
              rcases ho.2 with ⟨e4, h5⟩ | ⟨g, cap, cur, e4, _, _, h5, _⟩
              · omega
              · rw [e4]
                refine ⟨_, run_eat ht h0 (by omega), ?_⟩
                unfold Rel
                exact ⟨z, hz, by omega, fun _ => ⟨by omega, g, by rw [e4]; rfl, by rw [Nat.zero_add, Nat.add_zero, hn]⟩⟩
            · simp at h
          · simp at h
        · simp at h
      · simp at h
    · simp at h
  · simp at h
theorem ownsRow_cells {base : Nat} {ty : TypeId} {sz n g : Nat} {v : Value} {xs : List Value} (h : w.ownsRow base ty sz v n xs) (hg : v.ownBlock = some g) (j : Nat) (u : Value) (hj : xs[j]? = some u) : w.cell? ⟨g, j, none⟩ = some u := by
  have := h.cells hg j u hj
  rw [Addr.add_mid, Nat.zero_add] at this
  exact this
/-- an element, or a part of it, is read -/
theorem sim_lde {D : Nat → List V → Option V} {ra : Bool} {x : Sr} {X : Operand} {n : Nat} {g : Bool} {t : TypeId} {d : Option Nat} {v : V} {ws : Wr} (S : St P L G w0 X0 C ρ a w) (hx : chkSr L X x = true)
    (hs : sizeIs P t n = true) (ha : aggIs P t g = true) (h1 : (g || n == 1) = true) (h : opV D L ρ d (.lde ra x n g) = some (v, ws)) : ws = [] ∧ ∃ u, (Instr.loadAt t (a.eval X)).run P w = .ok u w ∧ Rel C w v u := by
  have hX := ev_rel S hx
  have hn1 : g = false → n = 1 := fun e => by rw [e] at h1; simpa using h1
  have fin : ∀ (b o : Nat) (us : List Value) (v' : V) (off : Nat), relP C.hot w v' us → off + n ≤ sizeV v' → (∀ q u, us[q]? = some u → w.cell? ⟨b, o + q, none⟩ = some u) →
      ∃ u, (Instr.loadAt t (.pointer (some ⟨b, o + off, none⟩))).run P w = .ok u w ∧ Rel C w (if g then .agg (((cellsV v').drop off).take n) else (cellsV v').getD off .dead) u := by
    intro b o us v' off hp hoff hc
    have hlen := relP_size hp
    have hr := relP_cells hp
    have := run_load_cells (P := P) (w := w) (b := b) (o := o + off) (us := (us.drop off).take n) hs ha (by simp; omega) (fun e => by rw [hn1 e]; omega) (fun j u hj => by
      rw [List.getElem?_take] at hj
      split at hj
      · rw [List.getElem?_drop] at hj
        have := hc _ _ hj
        rw [Nat.add_assoc]
        exact this
      · cases hj)
    refine ⟨_, this, ?_⟩
    cases g with
    | true => rw [if_pos rfl]; simp only [if_true]; unfold Rel; exact ⟨_, rfl, RelL_take _ _ _ (RelL_drop _ _ _ hr)⟩
    | false =>
      have hn := hn1 rfl
      obtain ⟨u, hu, hu2⟩ := RelL_at hr (show off < (cellsV v').length by have : (cellsV v').length = sizeV v' := rfl; omega)
      rw [if_neg (by simp), if_neg (by simp)]
      rw [show ((us.drop off).take n).getD 0 undef = u by
        rw [List.getD_eq_getElem?_getD, List.getElem?_take, if_pos (by omega), List.getElem?_drop, Nat.add_zero, hu]; rfl]
      exact hu2
  unfold opV at h
  dsimp only at h
  split at h
  · rename_i l i off e
    rw [e] at hX
    split at h
    · rename_i v' hv
      split at h
      · rename_i hoff
        simp only [Option.some.injEq, Prod.mk.injEq] at h
        obtain ⟨rfl, rfl⟩ := h
        refine ⟨rfl, ?_⟩
        unfold Rel at hX
        obtain ⟨b, o, sz, h2, h3, h4, h5, e2⟩ := hX
        rw [e2]
        obtain ⟨us, g1, g2, g3⟩ := relRow_get l 0 h4 i v' hv
        exact fin b (o + i * sz) us v' off g2 hoff fun q u hq => by have := g3 q u hq; rw [Nat.zero_add] at this; exact this
      · simp at h
    · simp at h
  · rename_i k m i off e
    rw [e] at hX
    split at h
    · rename_i l hl
      obtain ⟨z, xs, hz, hlt, e3, hm, hzn, hzb, hz0, ho, hrow⟩ := elems_own S hl
      split at h
      · rename_i v' hv
        split at h
        · rename_i hoff
          simp only [Option.some.injEq, Prod.mk.injEq] at h
          obtain ⟨rfl, rfl⟩ := h
          refine ⟨rfl, ?_⟩
          unfold Rel at hX
          obtain ⟨z', hz', _, hu⟩ := hX
          rw [hz] at hz'
          injection hz' with hz'
          subst hz'
          obtain ⟨_, gb, hgb, e4⟩ := hu (by omega)
          rw [e4]
          obtain ⟨us, g1, g2, g3⟩ := RowL_get l xs hrow i v' hv
          exact fin gb (i * z.sz) us v' off g2 hoff fun q u hq => ownsRow_cells ho hgb _ u (g3 q u hq)
        · simp at h
      · simp at h
    · simp at h
  · simp at h
theorem sim_len {D : Nat → List V → Option V} {ra : Bool} {x : Sr} {X : Operand} {t ty : TypeId} {d : Option Nat} {v : V} {ws : Wr} (S : St P L G w0 X0 C ρ a w) (hx : chkSr L X x = true)
    (ht : isSliceT P t = true) (h : opV D L ρ d (.len ra x) = some (v, ws)) : ws = [] ∧ ∃ u, (Builtin.len_ #[t] ty #[a.eval X]).run P w = .ok u w ∧ Rel C w v u := by
  have hX := ev_rel S hx
  unfold opV at h
  dsimp only at h
  obtain ⟨l, hl, h⟩ := Option.map_eq_some_iff.1 h
  simp only [Prod.mk.injEq] at h
  obtain ⟨rfl, rfl⟩ := h
  refine ⟨rfl, ?_⟩
  obtain ⟨A, c, e, _, _⟩ := elems_len S hl hX
  unfold isSliceT at ht
  split at ht
  · rename_i e' hu
    rw [e]
    exact ⟨_, by simp [Builtin.len_, run_underlying hu]; rfl, Rel_mkint _ _⟩
  · cases ht
theorem relRow_drop {hot : Nat → Prop} {b o sz : Nat} : ∀ (n : Nat) (l : List V) (i : Nat), relRow hot w b o sz i l → relRow hot w b o sz (i + n) (l.drop n)
  | 0, l, i, h => h
  | n + 1, [], i, h => by unfold relRow; trivial
  | n + 1, v :: l, i, h => by
    unfold relRow at h
    have := relRow_drop n l (i + 1) h.2
    rw [show i + (n + 1) = i + 1 + n by omega]
    exact this
theorem relRow_take {hot : Nat → Prop} {b o sz : Nat} : ∀ (n : Nat) (l : List V) (i : Nat), relRow hot w b o sz i l → relRow hot w b o sz i (l.take n)
  | 0, l, i, h => by unfold relRow; simp
  | n + 1, [], i, h => by unfold relRow; trivial
  | n + 1, v :: l, i, h => by
    unfold relRow at h
    rw [List.take_succ_cons]
    unfold relRow
    exact ⟨h.1, relRow_take n l (i + 1) h.2⟩
theorem relRow_shift {hot : Nat → Prop} {b o sz : Nat} (m : Nat) : ∀ (l : List V) (i : Nat), relRow hot w b o sz (m + i) l → relRow hot w b (o + m * sz) sz i l
  | [], i, h => by unfold relRow; trivial
  | v :: l, i, h => by
    unfold relRow at h ⊢
    obtain ⟨⟨us, h1, h2, h3⟩, h4⟩ := h
    refine ⟨⟨us, h1, h2, fun j u hj => ?_⟩, relRow_shift m l (i + 1) h4⟩
    have := h3 j u hj
    rw [Nat.add_mul] at this
    rw [show o + m * sz + i * sz + j = o + (m * sz + i * sz) + j by omega]
    exact this
theorem run_slc {t : TypeId} {n : Nat} {A : Option Addr} {len c : Nat} {k k' : IntKind} {lo hi : Option Value} {p q : Int} (h : elemIs P t n = true) (hlo : lo = some (.int k p) ∨ lo = none ∧ p = 0) (hhi : hi = some (.int k' q) ∨ hi = none ∧ q = len)
    (h0 : 0 ≤ p) (h1 : p ≤ q) (h2 : q ≤ len) (h3 : len ≤ c) : (Instr.sliceAt t (.slice A len c) lo hi none).run P w = .ok (sliced A p.toNat q.toNat c n) w := by
  unfold elemIs at h
  split at h
  · rename_i e hu
    simp only [Bool.and_eq_true, decide_eq_true_iff] at h
    have he : P.elem t = e := by simp [Program.elem, hu]
    have hu' : P.underlying t = some (.slice (P.elem t)) := by rw [he]; exact hu
    have hz : (sizeOf (P.elem t)).run P w = .ok n w := by rw [he]; exact sizeIs_run h.1
    rw [run_sliceAt_slice w t _ _ _ _ hu']
    rcases hlo with rfl | ⟨rfl, rfl⟩ <;> rcases hhi with rfl | ⟨rfl, rfl⟩
    · rw [run_slice_lh w t A len c hu' k k' p q h0 h1 (by omega), hz]; rfl
    · rw [run_slice_l w t A len c hu' k p h0 (by omega), hz]; simp [Result.andThen]
    · rw [run_slice_h w t A len c hu' k' q h1 (by omega), hz]; rfl
    · rw [run_slice_all w t A len c hu', hz]; simp [Result.andThen]
  · cases h
theorem Rel_lst_cut {l : List V} {A : Option Addr} {c n i m : Nat} (h : Rel C w (.lst l) (.slice A l.length c)) (hs : sizesB n l = true) (h1 : i ≤ m) (h2 : m ≤ l.length) (hc : l.length ≤ c) :
    Rel C w (.lst ((l.drop i).take (m - i))) (sliced A i m c n) := by
  unfold Rel relP at h ⊢
  obtain ⟨A', c', e, h3, h4, h5⟩ := h
  simp only [List.cons.injEq, Value.slice.injEq, and_true] at e
  obtain ⟨rfl, _, rfl⟩ := e
  have hlen : ((l.drop i).take (m - i)).length = m - i := by simp; omega
  refine ⟨_, _, by unfold sliced; rw [hlen], by omega, by omega, ?_⟩
  by_cases he : m - i = 0
  · left
    exact List.eq_nil_of_length_eq_zero (by omega)
  · right
    have hi : i < l.length := by omega
    rcases h5 with h5 | ⟨b, o, sz, eA, hs0, hh, hr⟩
    · subst h5; simp at hi
    · obtain ⟨us, g1, g2, _⟩ := relRow_get l 0 hr i l[i] (List.getElem?_eq_getElem hi)
      have hsz : sz = n := by rw [← g1, relP_size g2]; exact sizesB_get hs i _ (List.getElem?_eq_getElem hi)
      subst hsz
      refine ⟨b, o + i * sz, sz, ?_, hs0, hh, ?_⟩
      · rw [if_neg (by omega), eA]
        simp [Addr.add_mid]
      · refine relRow_take _ _ _ (relRow_shift i _ 0 ?_)
        have := relRow_drop i l 0 hr
        rw [Nat.zero_add] at this
        exact this
theorem sim_slc {D : Nat → List V → Option V} {n : Nat} {x : Sr} {X : Operand} {lo hi : Option Sr} {LO HI : Option Operand} {t : TypeId} {d : Option Nat} {v : V} {ws : Wr} (S : St P L G w0 X0 C ρ a w) (hx : chkSr L X x = true)
    (hlo : chkOpt L LO lo = true) (hhi : chkOpt L HI hi = true) (ht : elemIs P t n = true) (h : opV D L ρ d (.slc n x lo hi) = some (v, ws)) :
    ws = [] ∧ ∃ u, (Instr.sliceAt t (a.eval X) (LO.map a.eval) (HI.map a.eval) none).run P w = .ok u w ∧ Rel C w v u := by
  have hX := ev_rel S hx
  unfold opV at h
  dsimp only at h
  split at h
  · rename_i l e
    rw [e] at hX
    have hX' := hX
    unfold Rel relP at hX'
    obtain ⟨A, c, e2, h1, h2, _⟩ := hX'
    simp only [List.cons.injEq, and_true] at e2
    split at h
    · rename_i hs
      split at h
      · rename_i k p k' q e3 e4
        split at h
        · rename_i hb
          simp only [Option.some.injEq, Prod.mk.injEq] at h
          obtain ⟨rfl, rfl⟩ := h
          refine ⟨rfl, ?_⟩
          have hl : LO.map a.eval = some (.int k p) ∨ LO.map a.eval = none ∧ p = 0 := by
            cases LO with
            | none => cases lo with
              | none => right; simp at e3; exact ⟨rfl, by omega⟩
              | some y => simp [chkOpt] at hlo
            | some X' => cases lo with
              | none => simp [chkOpt] at hlo
              | some y =>
                left
                have := ev_rel S (show chkSr L X' y = true from hlo)
                simp only [Option.map_some, Option.getD_some] at e3
                rw [e3] at this
                simp [Rel_int this]
          have hh : HI.map a.eval = some (.int k' q) ∨ HI.map a.eval = none ∧ q = l.length := by
            cases HI with
            | none => cases hi with
              | none => right; simp at e4; exact ⟨rfl, by omega⟩
              | some y => simp [chkOpt] at hhi
            | some X' => cases hi with
              | none => simp [chkOpt] at hhi
              | some y =>
                left
                have := ev_rel S (show chkSr L X' y = true from hhi)
                simp only [Option.map_some, Option.getD_some] at e4
                rw [e4] at this
                simp [Rel_int this]
          rw [e2] at hX ⊢
          refine ⟨_, run_slc ht hl hh hb.1 hb.2.1 hb.2.2 h1, ?_⟩
          exact Rel_lst_cut hX hs (by omega) (by omega) h1
        · simp at h
      · simp at h
    · simp at h
  · simp at h
end
end Go.Proofs.YtmbdbkcifmkpbaaGreatDoor.Den
end
section
set_option linter.unusedVariables false
set_option linter.unnecessarySimpa false
set_option linter.unusedSimpArgs false
namespace Go.Proofs.YtmbdbkcifmkpbaaGreatDoor.Den
open Go Go.RowKit

/-! ### registers in a row -/
theorem upd_append : ∀ (ws ws' : Wr) (ρ : Nat → V), upd ρ (ws ++ ws') = upd (upd ρ ws) ws'
  | [], ws', ρ => rfl
  | (t, v) :: ws, ws', ρ => by rw [List.cons_append]; exact upd_append ws ws' _
theorem upd_row : ∀ (vs : List V) (base : Nat) (ρ : Nat → V) (t : Nat), upd ρ (vs.mapIdx fun j v => (base + j, v)) t = if base ≤ t ∧ t < base + vs.length then vs.getD (t - base) .dead else ρ t
  | [], base, ρ, t => by
    rw [if_neg (by rw [List.length_nil]; omega)]
    rfl
  | v :: vs, base, ρ, t => by
    rw [List.mapIdx_cons]
    show upd (upd1 ρ base v) (vs.mapIdx fun j v => (base + (j + 1), v)) t = _
    rw [show (fun (j : Nat) (v : V) => (base + (j + 1), v)) = (fun j v => (base + 1 + j, v)) from funext fun j => funext fun v => by rw [show base + (j + 1) = base + 1 + j by omega]]
    rw [upd_row vs (base + 1) _ t]
    by_cases h1 : base + 1 ≤ t ∧ t < base + 1 + vs.length
    · rw [if_pos h1, if_pos (by rw [List.length_cons]; omega), show t - base = (t - (base + 1)) + 1 by omega]
      rfl
    · rw [if_neg h1]
      unfold upd1
      by_cases h2 : t = base
      · subst h2
        rw [if_pos rfl, if_pos (by rw [List.length_cons]; omega), Nat.sub_self]
        rfl
      · rw [if_neg h2, if_neg (by rw [List.length_cons]; omega)]

/-! ### cells in a row -/
theorem setIf_row : ∀ (us : List Value) (k off : Nat) (cs : Array Value), off + k + us.length ≤ cs.size →
    ∃ cs' : Array Value, (us.zipIdx k).foldl (fun cs (c, j) => cs.setIfInBounds (off + j) c) cs = cs' ∧ cs'.toList = cs.toList.take (off + k) ++ us ++ cs.toList.drop (off + k + us.length)
  | [], k, off, cs, h => ⟨cs, rfl, by simp⟩
  | u :: us, k, off, cs, h => by
    simp only [List.length_cons] at h
    obtain ⟨cs', h1, h2⟩ := setIf_row us (k + 1) off (cs.setIfInBounds (off + k) u) (by simp; omega)
    refine ⟨cs', ?_, ?_⟩
    · rw [List.zipIdx_cons, List.foldl_cons]
      exact h1
    · rw [h2, Array.toList_setIfInBounds]
      apply List.ext_getElem?
      intro j
      simp only [List.getElem?_append, List.getElem?_take, List.getElem?_drop, List.getElem?_set, List.length_append, List.length_take, List.length_set, Array.length_toList, List.length_cons, List.getElem?_cons]
      by_cases c1 : j < off + k
      · have : j < off + (k + 1) := by omega
        simp [c1, this, show ¬ off + k = j by omega, show min (off + (k + 1)) cs.size = off + (k + 1) by omega, show min (off + k) cs.size = off + k by omega, show j < off + (k + 1) + us.length by omega, show j < off + k + (us.length + 1) by omega]
      · by_cases c2 : j = off + k
        · subst c2
          simp [show min (off + (k + 1)) cs.size = off + (k + 1) by omega, show min (off + k) cs.size = off + k by omega, show off + k < off + (k + 1) by omega, show off + k < off + (k + 1) + us.length by omega, show off + k < cs.size by omega]
        · by_cases c3 : j < off + (k + 1) + us.length
          · simp [c1, show ¬ j < off + (k + 1) by omega, show min (off + (k + 1)) cs.size = off + (k + 1) by omega, show min (off + k) cs.size = off + k by omega, c3, show j < off + k + (us.length + 1) by omega, show ¬ j - (off + k) = 0 by omega, show j - (off + (k + 1)) = j - (off + k) - 1 by omega]
          · simp [show min (off + (k + 1)) cs.size = off + (k + 1) by omega, show min (off + k) cs.size = off + k by omega, c3, show ¬ j < off + k + (us.length + 1) by omega]
            rw [if_neg (by omega)]
            congr 1
            omega

section
variable {P : Program} {L : Lay} {G : World → Prop} {w0 : World} {X0 : Nat → Prop} {C : Ctx} {ρ : Nat → V} {a : Act} {w : World}

theorem Rel_cells {v : V} {u : Value} (S : St P L G w0 X0 C ρ a w) (hc : allCell (cellsV v) = true) (h : Rel C w v u) : RelL C w (cellsV v) u.cells.toList := by
  cases v with
  | agg l =>
    unfold Rel at h
    obtain ⟨us, rfl, h⟩ := h
    simpa [cellsV, Value.cells] using h
  | tup l => simp [cellsV, allCell, cellB] at hc
  | dead => simp [cellsV, allCell, cellB] at hc
  | ptr _ _ => simp [cellsV, allCell, cellB] at hc
  | ept _ _ _ => simp [cellsV, allCell, cellB] at hc
  | epo _ _ _ _ => simp [cellsV, allCell, cellB] at hc
  | arr _ _ _ _ => simp [cellsV, allCell, cellB] at hc
  | bool b => rw [Rel_bool h]; unfold cellsV RelL; exact ⟨_, [], rfl, Rel_mkbool b, by unfold RelL; rfl⟩
  | int k n => rw [Rel_int h]; unfold cellsV RelL; exact ⟨_, [], rfl, Rel_mkint k n, by unfold RelL; rfl⟩
  | fn f => have h' := h; unfold Rel at h'; subst h'; unfold cellsV RelL; exact ⟨_, [], rfl, h, by unfold RelL; rfl⟩
  | str s => have h' := h; unfold Rel at h'; subst h'; unfold cellsV RelL; exact ⟨_, [], rfl, h, by unfold RelL; rfl⟩
  | nil0 => have h' := h; unfold Rel at h'; subst h'; unfold cellsV RelL; exact ⟨_, [], rfl, h, by unfold RelL; rfl⟩
  | lst l =>
    have h' := h
    unfold Rel relP at h'
    obtain ⟨A, c, e, _⟩ := h'
    simp only [List.cons.injEq, and_true] at e
    subst e
    unfold cellsV RelL; exact ⟨_, [], rfl, h, by unfold RelL; rfl⟩
  | own k n =>
    have h' := h
    unfold Rel at h'
    obtain ⟨x, _, _, h1, _⟩ := h'
    have : u.cells = #[u] := by cases u <;> first | rfl | (simp [Value.oneCell'] at h1)
    rw [this]
    unfold cellsV RelL; exact ⟨_, [], rfl, h, by unfold RelL; rfl⟩
theorem allCell_take : ∀ (n : Nat) (l : List V), allCell l = true → allCell (l.take n) = true
  | 0, l, h => by simp [allCell]
  | n + 1, [], h => by simp [allCell]
  | n + 1, v :: l, h => by
    unfold allCell at h
    rw [Bool.and_eq_true] at h
    rw [List.take_succ_cons]
    unfold allCell
    rw [h.1, allCell_take n l h.2]
    rfl
theorem allCell_drop : ∀ (n : Nat) (l : List V), allCell l = true → allCell (l.drop n) = true
  | 0, l, h => h
  | n + 1, [], h => h
  | n + 1, v :: l, h => by
    unfold allCell at h
    rw [Bool.and_eq_true] at h
    exact allCell_drop n l h.2
theorem allCell_append : ∀ (l l' : List V), allCell l = true → allCell l' = true → allCell (l ++ l') = true
  | [], l', h, h' => h'
  | v :: l, l', h, h' => by
    unfold allCell at h
    rw [Bool.and_eq_true] at h
    rw [List.cons_append]
    unfold allCell
    rw [h.1, allCell_append l l' h.2 h']
    rfl

/-- parts: of the program, and abstract -/
def partsOk (L : Lay) (place : Nat → Option (Nat × Nat)) : List (Nat × Operand) → List (Nat × Nat × Sr) → Prop
  | [], [] => True
  | (i, x) :: ps, (off, n, y) :: qs => place i = some (off, n) ∧ chkSr L x y = true ∧ partsOk L place ps qs
  | _, _ => False
theorem fill_rel (S : St P L G w0 X0 C ρ a w) {place : Nat → Option (Nat × Nat)} : ∀ (ps : List (Nat × Operand)) (qs : List (Nat × Nat × Sr)) (cs : List V) (us : Array Value) (cs' : List V),
    partsOk L place ps qs → RelL C w cs us.toList → allCell cs = true → fillV ρ cs qs = some cs' → ∃ us' : Array Value, Instr.fill place us (ps.map fun p => (p.1, a.eval p.2)) = some us' ∧ RelL C w cs' us'.toList ∧ allCell cs' = true ∧ cs'.length = cs.length
  | [], [], cs, us, cs', _, hr, hc, h => by
    simp only [fillV, Option.some.injEq] at h
    subst h
    exact ⟨us, rfl, hr, hc, rfl⟩
  | (i, x) :: ps, (off, n, y) :: qs, cs, us, cs', hp, hr, hc, h => by
    obtain ⟨h1, h2, h3⟩ := hp
    unfold fillV at h
    split at h
    · rename_i hk
      obtain ⟨k1, k2, k3⟩ := hk
      have hx := Rel_cells S k3 (ev_rel S h2)
      have hlen := RelL_length _ _ hr
      have hlx := RelL_length _ _ hx
      rw [Array.length_toList] at hlen hlx
      have hsz : (a.eval x).cells.size = n := by omega
      obtain ⟨us', e1, e2⟩ := setIf_row (a.eval x).cells.toList 0 off us (by rw [Array.length_toList]; omega)
      have hfold : (a.eval x).cells.zipIdx.foldl (fun cs (c, j) => cs.setIfInBounds (off + j) c) us = us' := by
        rw [← e1, ← Array.foldl_toList, Array.toList_zipIdx]
      have hr' : RelL C w (cs.take off ++ cellsV (ev ρ y) ++ cs.drop (off + n)) us'.toList := by
        rw [e2, Nat.add_zero, Array.length_toList, hsz]
        exact RelL_append _ _ _ _ (RelL_append _ _ _ _ (RelL_take _ _ _ hr) hx) (RelL_drop _ _ _ hr)
      have hc' : allCell (cs.take off ++ cellsV (ev ρ y) ++ cs.drop (off + n)) = true := allCell_append _ _ (allCell_append _ _ (allCell_take _ _ hc) k3) (allCell_drop _ _ hc)
      obtain ⟨us2, f1, f2, f3, f4⟩ := fill_rel S ps qs _ us' cs' h3 hr' hc' h
      refine ⟨us2, ?_, f2, f3, by rw [f4]; simp; omega⟩
      rw [List.map_cons]
      unfold Instr.fill
      rw [h1]
      simp only
      rw [if_neg (by simp [hsz]; omega), hfold]
      exact f1
    · simp at h
  | [], _ :: _, cs, us, cs', hp, hr, hc, h => hp.elim
  | _ :: _, [], cs, us, cs', hp, hr, hc, h => hp.elim

/-! ### a new variable -/
def Ctx.withLoc (C : Ctx) (id b : Nat) : Ctx := { C with loc := fun i => if i = id then some b else C.loc i }
theorem isDead_eq {v : V} (h : isDead v = true) : v = .dead := by cases v <;> first | rfl | cases h
theorem St.newvar (S : St P L G w0 X0 C ρ a w) (hL : layOk L = true) (hG : ∀ w w', G w → Below w0.heap.size w w' → G w') {d base n : Nat} {vs : List V} {us : Array Value} {ty : TypeId} (hd : isDead (ρ d) = true) (hm : (d, base, n) ∈ L.var)
    (hn : vs.length = n) (hr : RelL C w vs us.toList) :
    St P L G w0 X0 (C.withLoc d w.heap.size) (upd ρ (dstW (.ptr d 0) (some d) ++ vs.mapIdx fun j v => (base + j, v))) (a.put (some d) (.pointer (some ⟨w.heap.size, 0, none⟩))) (w.alloc (.cells us ty)) := by
  obtain ⟨l1, l2, l3, l4⟩ := layOk_spec hL
  obtain ⟨g1, g2, g3⟩ := l3 d base n hm
  have hdead := isDead_eq hd
  have hB : Below w.heap.size w (w.alloc (.cells us ty)) := (Below.refl _ _).alloc (Nat.le_refl _) _
  have hnone : C.loc d = none := by
    cases hc : C.loc d with
    | none => rfl
    | some b => have := (S.loc d b hc).2.1; rw [hdead] at this; cases this
  have hhot : ∀ b, (C.withLoc d w.heap.size).hot b → C.hot b ∨ b = w.heap.size := by
    intro b h
    rcases h with h | ⟨id, h⟩ | h
    · exact .inl (.inl h)
    · unfold Ctx.withLoc at h
      simp only at h
      split at h
      · exact .inr (Option.some.inj h).symm
      · exact .inl (.inr (.inl ⟨id, h⟩))
    · exact .inl (.inr (.inr h))
  have hle : Le C w (C.withLoc d w.heap.size) (w.alloc (.cells us ty)) := by
    refine ⟨fun id b h => ?_, fun k x h => ⟨x, h, Nat.le_refl _, rfl, fun _ => rfl⟩, fun b hb hh => ⟨fun h => ?_, hB.block b hb⟩⟩
    · unfold Ctx.withLoc
      simp only
      rw [if_neg (fun e => by rw [e, hnone] at h; cases h)]
      exact h
    · rcases hhot b h with h | h
      · exact hh h
      · omega
  have hlow : ∀ id b, C.loc id = some b → b < w.heap.size := fun id b h => S.hotlt (.inr (.inl ⟨id, h⟩))
  have E : ∀ t, upd ρ (dstW (.ptr d 0) (some d) ++ vs.mapIdx fun j v => (base + j, v)) t = if base ≤ t ∧ t < base + n then vs.getD (t - base) .dead else if t = d then .ptr d 0 else ρ t := by
    intro t
    rw [upd_append, upd_row, hn]
    rfl
  have E1 : ∀ t, t < L.nt → t ≠ d → upd ρ (dstW (.ptr d 0) (some d) ++ vs.mapIdx fun j v => (base + j, v)) t = ρ t := fun t h1 h2 => by rw [E, if_neg (by omega), if_neg h2]
  have E2 : upd ρ (dstW (.ptr d 0) (some d) ++ vs.mapIdx fun j v => (base + j, v)) d = .ptr d 0 := by rw [E, if_neg (by omega), if_pos rfl]
  have E3 : ∀ k, L.ab + k < L.nr → upd ρ (dstW (.ptr d 0) (some d) ++ vs.mapIdx fun j v => (base + j, v)) (L.ab + k) = ρ (L.ab + k) := fun k h => by rw [E, if_neg (by omega), if_neg (by omega)]
  have S0 := S.below.size
  refine ⟨?_, S.defs, fun t ht => ?_, fun id b h => ?_, fun k x h => ?_, fun k q s e l hk h => ?_, fun id id' b h h' => ?_, fun id b k x h h' => ?_, S.ia, S.ext, ?_, hG _ _ S.g (hB.mono S.below.size), S.cx⟩
  · unfold Act.put; simp [S.tsz]
  · rw [act_put_get a d t _ (by rw [S.tsz]; exact g1)]
    by_cases h : t = d
    · subst h
      rw [E2, if_pos rfl]
      unfold Rel Ctx.withLoc
      exact ⟨w.heap.size, by simp, rfl⟩
    · rw [E1 t ht h, if_neg h]
      exact Rel_mono hle _ _ (S.tmp t ht)
  · unfold Ctx.withLoc at h
    simp only at h
    split at h
    · rename_i e
      subst e
      injection h with h
      subst h
      refine ⟨S0, E2, base, n, hm, us, ty, heap_alloc_new w _, ?_, fun j hj => ?_⟩
      · have := RelL_length _ _ hr
        rw [Array.length_toList] at this
        omega
      · rw [E, if_pos (by omega), Nat.add_sub_cancel_left]
        have := RelL_at hr (show j < vs.length by omega)
        obtain ⟨u, h1, h2⟩ := this
        rw [show us.getD j undef = u by rw [Array.getD_eq_getD_getElem?, ← Array.getElem?_toList, h1]; rfl]
        exact Rel_mono hle _ _ h2
    · rename_i hne
      obtain ⟨h1, h2, base', n', h3, us', ty', h4, h5, h6⟩ := S.loc id b h
      obtain ⟨k1, k2, k3⟩ := l3 id base' n' h3
      refine ⟨h1, by rw [E1 id k1 hne]; exact h2, base', n', h3, us', ty', (hB.block b (hlow id b h)).trans h4, h5, fun j hj => ?_⟩
      rcases l4 d base n id base' n' hm h3 with e | ⟨_, e⟩
      · exact absurd e.1 hne
      · rw [E, if_neg (by omega), if_neg (by omega)]
        exact Rel_mono hle _ _ (h6 j hj)
  · obtain ⟨h1, l, xs, h2, h3, h4, h5, h6, h7⟩ := S.arr k x h
    exact ⟨h1, l, xs, by rw [E3 k h1]; exact h2, h3, h4, h5, ownsRow_below h6 fun b hb => hB.block b (ownsRow_lt h6 hb).2, RowL_mono hle.cold l xs h7⟩
  · rw [E3 k hk] at h
    exact S.arn k q s e l hk h
  · unfold Ctx.withLoc at h h'
    simp only at h h'
    split at h <;> split at h'
    · rename_i e e'; rw [e, e']
    · rename_i e e'
      injection h with h
      have := hlow id' b h'
      omega
    · rename_i e e'
      injection h' with h'
      have := hlow id b h
      omega
    · exact S.il id id' b h h'
  · unfold Ctx.withLoc at h
    simp only at h
    split at h
    · injection h with h
      subst h
      intro e
      obtain ⟨_, l, xs, _, _, _, _, ho, _⟩ := S.arr k x h'
      have := (ownsRow_lt ho e).2
      omega
    · exact S.ila id b k x h h'
  · exact S.below.trans (hB.mono S0)

/-! ### a store into a variable -/
theorem setCells_at (g : Nat) : ∀ (vs : List Value) (o : Nat) (w : World) (cs : Array Value) (ty : TypeId), w.heap[g]? = some (.cells cs ty (0, 0)) →
    ∃ cs' : Array Value, (w.setCells g o vs).heap[g]? = some (.cells cs' ty (0, 0)) ∧ cs'.size = cs.size ∧ (∀ j, cs'.getD j undef = if o ≤ j ∧ j < o + vs.length ∧ j < cs.size then vs.getD (j - o) undef else cs.getD j undef) ∧
      (∀ b, b ≠ g → (w.setCells g o vs).heap[b]? = w.heap[b]?) ∧ (w.setCells g o vs).heap.size = w.heap.size ∧ (w.setCells g o vs).os = w.os ∧ (w.setCells g o vs).tape = w.tape ∧ (w.setCells g o vs).output = w.output
  | [], o, w, cs, ty, h => ⟨cs, h, rfl, fun j => by rw [if_neg (by simp; omega)], fun _ _ => rfl, rfl, rfl, rfl, rfl⟩
  | v :: vs, o, w, cs, ty, h => by
    have h1 : (w.setCell ⟨g, o, none⟩ v).heap[g]? = some (.cells (cs.setIfInBounds o v) ty (0, 0)) := by simp only [World.setCell, Array.getElem?_modify, if_pos, h]; rfl
    obtain ⟨cs', k1, k2, k3, k4, k5, k6, k7, k8⟩ := setCells_at g vs (o + 1) _ _ _ h1
    refine ⟨cs', k1, by rw [k2]; simp, fun j => ?_, fun b hb => (k4 b hb).trans (Below.heap_setCell w _ v b hb), by rw [World.setCells, k5]; simp [World.setCell], k6, k7, k8⟩
    rw [k3 j]
    simp only [Array.size_setIfInBounds, List.length_cons]
    by_cases c : o + 1 ≤ j ∧ j < o + 1 + vs.length ∧ j < cs.size
    · rw [if_pos c, if_pos (by omega), show j - o = (j - (o + 1)) + 1 by omega]
      rfl
    · rw [if_neg c]
      rw [Array.getD_eq_getD_getElem?, Array.getElem?_setIfInBounds]
      by_cases c2 : o = j
      · subst c2
        by_cases c3 : o < cs.size
        · rw [if_pos rfl, if_pos c3, if_pos (by omega), Nat.sub_self]; rfl
        · rw [if_pos rfl, if_neg c3, if_neg (by omega), Array.getD_eq_getD_getElem?, Array.getElem?_eq_none (by omega)]
      · rw [if_neg c2, if_neg (by omega), Array.getD_eq_getD_getElem?]
theorem St.store (S : St P L G w0 X0 C ρ a w) (hL : layOk L = true) (hG : ∀ w w', G w → Below w0.heap.size w w' → G w') {id b base n off : Nat} {vs : List V} {us : List Value} (hc : C.loc id = some b) (hm : (id, base, n) ∈ L.var)
    (hn : off + vs.length ≤ n) (hr : RelL C w vs us) :
    St P L G w0 X0 C (upd ρ (vs.mapIdx fun j v => (base + off + j, v))) a (w.setCells b off us) := by
  obtain ⟨l1, l2, l3, l4⟩ := layOk_spec hL
  obtain ⟨g1, g2, g3⟩ := l3 id base n hm
  obtain ⟨h1, h2, base', n', h3, cs, ty, h4, h5, h6⟩ := S.loc id b hc
  have hb' : base' = base ∧ n' = n := by
    rcases l4 id base n id base' n' hm h3 with e | e
    · exact e.2
    · exact absurd rfl e.1
  obtain ⟨rfl, rfl⟩ := hb'
  have hlen := RelL_length _ _ hr
  obtain ⟨cs', k1, k2, k3, k4, k5, k6, k7, k8⟩ := setCells_at b us off w cs ty h4
  have hle : Le C w C (w.setCells b off us) := ⟨fun _ _ h => h, fun k x h => ⟨x, h, Nat.le_refl _, rfl, fun _ => rfl⟩, fun b' _ hh => ⟨hh, k4 b' fun e => hh (.inr (.inl ⟨id, e ▸ hc⟩))⟩⟩
  have E : ∀ t, upd ρ (vs.mapIdx fun j v => (base' + off + j, v)) t = if base' + off ≤ t ∧ t < base' + off + vs.length then vs.getD (t - (base' + off)) .dead else ρ t := upd_row vs _ ρ
  refine ⟨S.tsz, S.defs, fun t ht => ?_, fun id' b' h => ?_, fun k x h => ?_, fun k q s e l hk h => ?_, S.il, S.ila, S.ia, S.ext, ?_, ?_, S.cx⟩
  · rw [E, if_neg (by omega)]
    exact Rel_mono hle _ _ (S.tmp t ht)
  · obtain ⟨m1, m2, base2, n2, m3, us2, ty2, m4, m5, m6⟩ := S.loc id' b' h
    obtain ⟨q1, q2, q3⟩ := l3 id' base2 n2 m3
    by_cases e : b' = b
    · have e' : id' = id := S.il id' id b (e ▸ h) hc
      subst e'; subst e
      have hb2 : base2 = base' ∧ n2 = n' := by
        rcases l4 _ _ _ _ _ _ hm m3 with e | e
        · exact e.2
        · exact absurd rfl e.1
      obtain ⟨rfl, rfl⟩ := hb2
      refine ⟨m1, by rw [E, if_neg (by omega)]; exact m2, base2, n2, m3, cs', ty, k1, by rw [k2]; exact h5, fun j hj => ?_⟩
      rw [E, k3 j]
      by_cases c : off ≤ j ∧ j < off + us.length ∧ j < cs.size
      · rw [if_pos (by omega), if_pos c, show base2 + j - (base2 + off) = j - off by omega]
        obtain ⟨u, u1, u2⟩ := RelL_at hr (show j - off < vs.length by omega)
        rw [show us.getD (j - off) undef = u by rw [List.getD_eq_getElem?_getD, u1]; rfl]
        exact Rel_mono hle _ _ u2
      · rw [if_neg (by omega), if_neg c]
        exact Rel_mono hle _ _ (h6 j hj)
    · have hne : id' ≠ id := fun e' => e (by subst e'; rw [hc] at h; exact (Option.some.inj h).symm)
      refine ⟨m1, by rw [E, if_neg (by omega)]; exact m2, base2, n2, m3, us2, ty2, (k4 b' e).trans m4, m5, fun j hj => ?_⟩
      rcases l4 id base' n' id' base2 n2 hm m3 with e' | ⟨_, e'⟩
      · exact absurd e'.1 hne
      · rw [E, if_neg (by omega)]
        exact Rel_mono hle _ _ (m6 j hj)
  · obtain ⟨m1, l, xs, m2, m3, m4, m5, m6, m7⟩ := S.arr k x h
    refine ⟨m1, l, xs, by rw [E, if_neg (by omega)]; exact m2, m3, m4, m5, ownsRow_below m6 fun b' hb => k4 b' fun e => S.ila id b k x hc h (e ▸ hb), RowL_mono hle.cold l xs m7⟩
  · rw [E, if_neg (by omega)] at h
    exact S.arn k q s e l hk h
  · refine S.below.trans ⟨k6, k7, k8, by rw [k5]; exact Nat.le_refl _, fun b' hb => k4 b' (by omega)⟩
  · exact hG _ _ S.g ⟨k6, k7, k8, by rw [k5]; exact Nat.le_refl _, fun b' hb => k4 b' (by omega)⟩
end
end Go.Proofs.YtmbdbkcifmkpbaaGreatDoor.Den
end
section
set_option linter.unusedVariables false
set_option linter.unnecessarySimpa false
set_option linter.unusedSimpArgs false
namespace Go.Proofs.YtmbdbkcifmkpbaaGreatDoor.Den
open Go Go.RowKit
section
variable {P : Program} {L : Lay} {G : World → Prop} {w0 : World} {X0 : Nat → Prop} {C : Ctx} {ρ : Nat → V} {a : Act} {w : World}

/-- one cell that leads to nobody's own -/
theorem shr_cell {v v' : V} {u : Value} (h : shr L ρ false v = some v') (hc : cellB v = true) (hr : Rel C w v u) : v' = v ∧ relP C.hot w v [u] := by
  cases v <;> simp only [cellB] at hc <;> try (cases hc)
  · simp only [shr, Option.some.injEq] at h; subst h; rw [Rel_bool hr]; exact ⟨rfl, by unfold relP; rfl⟩
  · simp only [shr, Option.some.injEq] at h; subst h; rw [Rel_int hr]; exact ⟨rfl, by unfold relP; rfl⟩
  · simp only [shr, Option.some.injEq] at h; subst h; unfold Rel at hr; subst hr; exact ⟨rfl, by unfold relP; rfl⟩
  · simp only [shr, Option.some.injEq] at h; subst h; unfold Rel at hr; subst hr; exact ⟨rfl, by unfold relP; rfl⟩
  · simp only [shr, Option.some.injEq] at h; subst h; unfold Rel at hr; subst hr; exact ⟨rfl, by unfold relP; rfl⟩
  · simp only [shr, Option.some.injEq] at h; subst h; unfold Rel at hr; exact ⟨rfl, hr⟩
  · simp [shr, ownE] at h
theorem shrL_cells : ∀ {cs cs' : List V} {us : List Value}, shrL L ρ false cs = some cs' → allCell cs = true → RelL C w cs us → cs' = cs ∧ relPL C.hot w cs us
  | [], cs', us, h, hc, hr => by
    simp only [shrL, Option.some.injEq] at h
    subst h
    unfold RelL at hr
    unfold relPL
    exact ⟨rfl, hr⟩
  | v :: cs, cs', us, h, hc, hr => by
    unfold shrL at h
    unfold allCell at hc
    rw [Bool.and_eq_true] at hc
    obtain ⟨v', hv, h⟩ := Option.bind_eq_some_iff.1 h
    obtain ⟨cs2, hcs, h⟩ := Option.map_eq_some_iff.1 h
    unfold RelL at hr
    obtain ⟨u, us', e, h1, h2⟩ := hr
    obtain ⟨e1, e2⟩ := shr_cell hv hc.1 h1
    obtain ⟨e3, e4⟩ := shrL_cells hcs hc.2 h2
    subst h
    unfold relPL
    exact ⟨by rw [e1, e3], u, us', e, hc.1, e2, e4⟩
theorem relPL_take {hot : Nat → Prop} : ∀ (n : Nat) (l : List V) (us : List Value), relPL hot w l us → relPL hot w (l.take n) (us.take n)
  | 0, l, us, h => by unfold relPL; simp
  | n + 1, [], us, h => by unfold relPL at h; subst h; unfold relPL; simp
  | n + 1, v :: l, us, h => by
    unfold relPL at h
    obtain ⟨u, us', rfl, h0, h1, h2⟩ := h
    simp only [List.take_succ_cons]
    unfold relPL
    exact ⟨u, _, rfl, h0, h1, relPL_take n l us' h2⟩
theorem relPL_drop {hot : Nat → Prop} : ∀ (n : Nat) (l : List V) (us : List Value), relPL hot w l us → relPL hot w (l.drop n) (us.drop n)
  | 0, l, us, h => h
  | n + 1, [], us, h => by unfold relPL at h; subst h; simp; unfold relPL; rfl
  | n + 1, v :: l, us, h => by
    unfold relPL at h
    obtain ⟨u, us', rfl, h0, h1, h2⟩ := h
    exact relPL_drop n l us' h2
theorem relPL_len {hot : Nat → Prop} : ∀ (l : List V) (us : List Value), relPL hot w l us → us.length = l.length
  | [], us, h => by unfold relPL at h; simp [h]
  | v :: l, us, h => by
    unfold relPL at h
    obtain ⟨u, us', rfl, _, _, h2⟩ := h
    simp [relPL_len l us' h2]
theorem chunk_row {hot : Nat → Prop} {g : Bool} {sz : Nat} (h0 : 0 < sz) (h1 : g = false → sz = 1) : ∀ (n : Nat) (cs : List V) (us : List Value), relPL hot w cs us → cs.length = n * sz → RowL hot w sz (chunk g sz n cs) us
  | 0, cs, us, h, hl => by
    have : cs = [] := List.eq_nil_of_length_eq_zero (by omega)
    subst this
    unfold relPL at h
    unfold chunk RowL
    exact h
  | n + 1, cs, us, h, hl => by
    rw [Nat.add_mul, Nat.one_mul] at hl
    have hlu := relPL_len cs us h
    unfold chunk RowL
    refine ⟨us.take sz, us.drop sz, (List.take_append_drop sz us).symm, by rw [List.length_take]; omega, ?_, chunk_row h0 h1 n _ _ (relPL_drop sz cs us h) (by rw [List.length_drop]; omega)⟩
    cases g with
    | true => rw [if_pos rfl]; unfold relP; exact relPL_take sz cs us h
    | false =>
      rw [if_neg (by simp)]
      have hs := h1 rfl
      subst hs
      cases cs with
      | nil => simp at hl
      | cons v cs =>
        unfold relPL at h
        obtain ⟨u, us', rfl, _, h3, _⟩ := h
        exact h3
theorem chunk_length {g : Bool} {sz : Nat} : ∀ (n : Nat) (cs : List V), (chunk g sz n cs).length = n
  | 0, cs => rfl
  | n + 1, cs => by unfold chunk; rw [List.length_cons, chunk_length n]

/-- what a row leads to, in a new block -/
theorem Rel_newlst {l : List V} {us : Array Value} {sz : Nat} {ty : TypeId} (S : St P L G w0 X0 C ρ a w) (h0 : 0 < sz) (hl : l.length ≤ big) (h : RowL C.hot w sz l us.toList) :
    Rel C (w.alloc (.cells us ty)) (.lst l) (.slice (some ⟨w.heap.size, 0, none⟩) l.length l.length) := by
  have hle : Le C w C (w.alloc (.cells us ty)) := Le.below ((Below.refl _ _).alloc (Nat.le_refl _) _)
  have h' := RowL_mono hle.cold l _ h
  unfold Rel relP
  refine ⟨_, _, rfl, Nat.le_refl _, hl, .inr ⟨w.heap.size, 0, sz, rfl, h0, fun hh => ?_, RowL_relRow l us.toList 0 h' fun j u hj => ?_⟩⟩
  · have := S.hotlt hh
    omega
  · rw [Nat.zero_mul, Nat.zero_add, cell_of_row _ w.heap.size j us ty (0, 0) (heap_alloc_new w _), ← Array.getElem?_toList]
    exact hj

/-! ### an array of one's own, made or made longer -/
def Ctx.withArr (C : Ctx) (k : Nat) (x : ArrC) : Ctx := { C with arr := fun i => if i = k then some x else C.arr i }
def rowOf (C : Ctx) (k : Nat) : Option Nat := (C.arr k).bind (·.v.ownBlock)
theorem St.setarr (S : St P L G w0 X0 C ρ a w) (hL : layOk L = true) (hG : ∀ w w', G w → Below w0.heap.size w w' → G w') {k : Nat} {x' : ArrC} {l' : List V} {xs' : List Value} {w' : World} (hk : L.ab + k < L.nr) (hmu : x'.mu = true)
    (hg : w.grownBy w' (rowOf C k)) (hold : ∀ x, C.arr k = some x → x.mu = true ∧ x.n < x'.n ∧ x'.sz = x.sz) (hfresh : ∀ b, x'.v.ownBlock = some b → rowOf C k = some b ∨ w.heap.size ≤ b)
    (ho : w'.ownsRow w0.heap.size x'.ty x'.sz x'.v x'.n xs') (hr : RowL C.hot w x'.sz l' xs') (hl : l'.length = x'.n) (hbig : x'.n ≤ big) (hsz : 0 < x'.sz) :
    St P L G w0 X0 (C.withArr k x') (upd ρ [(L.ab + k, .arr true x'.sz x'.ty l')]) a w' ∧ Le C w (C.withArr k x') w' := by
  obtain ⟨l1, l2, l3, l4⟩ := layOk_spec hL
  have hrow : ∀ b, rowOf C k = some b → C.hot b ∧ w0.heap.size ≤ b := by
    intro b hb
    unfold rowOf at hb
    obtain ⟨x, hx, hb⟩ := Option.bind_eq_some_iff.1 hb
    obtain ⟨_, l, xs, _, _, _, _, ho', _⟩ := S.arr k x hx
    exact ⟨.inr (.inr ⟨k, x, hx, (hold x hx).1, hb⟩), (ownsRow_lt ho' hb).1⟩
  have hblk : ∀ b, b < w.heap.size → rowOf C k ≠ some b → w'.heap[b]? = w.heap[b]? := fun b h1 h2 => hg.block b h1 (fun e => h2 e.symm)
  have hhot : ∀ b, (C.withArr k x').hot b → C.hot b ∨ w.heap.size ≤ b := by
    intro b h
    rcases h with h | h | ⟨i, x, h, h1, h2⟩
    · exact .inl (.inl h)
    · exact .inl (.inr (.inl h))
    · unfold Ctx.withArr at h
      simp only at h
      split at h
      · injection h with h
        subst h
        rcases hfresh b h2 with h3 | h3
        · exact .inl (hrow b h3).1
        · exact .inr h3
      · exact .inl (.inr (.inr ⟨i, x, h, h1, h2⟩))
  have hle : Le C w (C.withArr k x') w' := by
    refine ⟨fun id b h => h, fun i x h => ?_, fun b hb hh => ⟨fun h => ?_, hblk b hb fun e => hh (hrow b e).1⟩⟩
    · by_cases e : i = k
      · subst e
        obtain ⟨h1, h2, h3⟩ := hold x h
        exact ⟨x', by simp [Ctx.withArr], by omega, h3, fun e => by omega⟩
      · exact ⟨x, by simp [Ctx.withArr, e, h], Nat.le_refl _, rfl, fun _ => rfl⟩
    · rcases hhot b h with h | h
      · exact hh h
      · omega
  have E : ∀ t, upd ρ [(L.ab + k, V.arr true x'.sz x'.ty l')] t = if t = L.ab + k then .arr true x'.sz x'.ty l' else ρ t := fun t => rfl
  have hB0 : Below w0.heap.size w w' := ⟨hg.os, hg.tape, hg.output, hg.size, fun b hb => hblk b (Nat.lt_of_lt_of_le hb S.below.size) fun e => by have := (hrow b e).2; omega⟩
  refine ⟨⟨S.tsz, S.defs, fun t ht => ?_, fun id b h => ?_, fun i x h => ?_, fun i q s e l hi h => ?_, S.il, fun id b i x h h' => ?_, fun i i' x y b h h' hb hb' => ?_, S.ext, S.below.trans hB0, hG _ _ S.g hB0, S.cx⟩, hle⟩
  · rw [E, if_neg (by omega)]
    exact Rel_mono hle _ _ (S.tmp t ht)
  · obtain ⟨h1, h2, base, n, h3, us, ty, h4, h5, h6⟩ := S.loc id b h
    obtain ⟨g1, g2, g3⟩ := l3 id base n h3
    have hblt := (Array.getElem?_eq_some_iff.1 h4).1
    refine ⟨h1, by rw [E, if_neg (by omega)]; exact h2, base, n, h3, us, ty, (hblk b hblt fun e => ?_).trans h4, h5, fun j hj => ?_⟩
    · unfold rowOf at e
      obtain ⟨x, hx, hb⟩ := Option.bind_eq_some_iff.1 e
      exact S.ila id b k x h hx hb
    · rw [E, if_neg (by omega)]
      exact Rel_mono hle _ _ (h6 j hj)
  · by_cases e : i = k
    · subst e
      simp only [Ctx.withArr, if_true, Option.some.injEq] at h
      subst h
      exact ⟨hk, l', xs', by rw [E, if_pos rfl, hmu], hl, hbig, hsz, ho, RowL_mono hle.cold l' xs' hr⟩
    · simp only [Ctx.withArr, if_neg e] at h
      obtain ⟨h1, l, xs, h2, h3, h4, h5, h6, h7⟩ := S.arr i x h
      refine ⟨h1, l, xs, by rw [E, if_neg (by omega)]; exact h2, h3, h4, h5, ownsRow_below h6 fun b hb => hblk b (ownsRow_lt h6 hb).2 fun e' => ?_, RowL_mono hle.cold l xs h7⟩
      unfold rowOf at e'
      obtain ⟨y, hy, hb'⟩ := Option.bind_eq_some_iff.1 e'
      exact e (S.ia i k x y b h hy hb hb')
  · rw [E] at h
    by_cases e1 : i = k
    · subst e1
      exact ⟨x', by simp [Ctx.withArr]⟩
    · rw [if_neg (by omega)] at h
      obtain ⟨x, hx⟩ := S.arn i q s e l hi h
      exact ⟨x, by simp [Ctx.withArr, e1, hx]⟩
  · by_cases e : i = k
    · subst e
      simp only [Ctx.withArr, if_true, Option.some.injEq] at h'
      subst h'
      intro hb
      rcases hfresh b hb with hb' | hb'
      · unfold rowOf at hb'
        obtain ⟨y, hy, hb2⟩ := Option.bind_eq_some_iff.1 hb'
        exact S.ila id b i y h hy hb2
      · have := S.hotlt (.inr (.inl ⟨id, h⟩))
        omega
    · simp only [Ctx.withArr, if_neg e] at h'
      exact S.ila id b i x h h'
  · have key : ∀ i x b, i ≠ k → C.arr i = some x → x.v.ownBlock = some b → x'.v.ownBlock ≠ some b := by
      intro i x b hi hx hb hb'
      rcases hfresh b hb' with h2 | h2
      · unfold rowOf at h2
        obtain ⟨y, hy, hb2⟩ := Option.bind_eq_some_iff.1 h2
        exact hi (S.ia i k x y b hx hy hb hb2)
      · obtain ⟨_, l, xs, _, _, _, _, ho', _⟩ := S.arr i x hx
        have := (ownsRow_lt ho' hb).2
        omega
    by_cases e : i = k <;> by_cases e' : i' = k
    · rw [e, e']
    · subst e
      simp only [Ctx.withArr, if_true, Option.some.injEq] at h
      simp only [Ctx.withArr, if_neg e'] at h'
      subst h
      exact absurd hb (key i' y b e' h' hb')
    · subst e'
      simp only [Ctx.withArr, if_true, Option.some.injEq] at h'
      simp only [Ctx.withArr, if_neg e] at h
      subst h'
      exact absurd hb' (key i x b e h hb)
    · simp only [Ctx.withArr, if_neg e] at h
      simp only [Ctx.withArr, if_neg e'] at h'
      exact S.ia i i' x y b h h' hb hb'
theorem RowL_set {hot : Nat → Prop} {sz : Nat} {v' : V} {us : List Value} (hv : relP hot w v' us) (hu : us.length = sz) : ∀ (l : List V) (xs : List Value) (i : Nat), RowL hot w sz l xs → i < l.length →
    RowL hot w sz (l.set i v') (xs.take (i * sz) ++ us ++ xs.drop (i * sz + sz))
  | [], xs, i, h, hi => by simp at hi
  | v :: l, xs, i, h, hi => by
    obtain ⟨us0, rest, rfl, h2, h3, h4⟩ := h
    cases i with
    | zero =>
      rw [List.set_cons_zero]
      refine ⟨us, rest, ?_, hu, hv, h4⟩
      rw [Nat.zero_mul, List.take_zero, List.nil_append, Nat.zero_add, ← h2, List.drop_left]
    | succ i =>
      rw [List.set_cons_succ]
      refine ⟨us0, _, ?_, h2, h3, RowL_set hv hu l rest i h4 (by simpa using hi)⟩
      have e1 : (us0 ++ rest).take ((i + 1) * sz) = us0 ++ rest.take (i * sz) := by
        rw [Nat.add_mul, Nat.one_mul, Nat.add_comm, ← h2, List.take_length_add_append]
      have e2 : (us0 ++ rest).drop ((i + 1) * sz + sz) = rest.drop (i * sz + sz) := by
        rw [show (i + 1) * sz + sz = us0.length + (i * sz + sz) by rw [Nat.add_mul, h2]; omega, List.drop_length_add_append]
      rw [e1, e2]
      simp
/-- A STORE INTO AN ARRAY OF ONE'S OWN. -/
theorem St.setel (S : St P L G w0 X0 C ρ a w) (hL : layOk L = true) (hG : ∀ w w', G w → Below w0.heap.size w w' → G w') {k i g : Nat} {x : ArrC} {l : List V} {v' : V} {us : List Value} (hx : C.arr k = some x) (hmu : x.mu = true) (hg : x.v.ownBlock = some g)
    (hρ : ρ (L.ab + k) = .arr true x.sz x.ty l) (hi : i < l.length) (hr : relP C.hot w v' us) (hlen : us.length = x.sz) :
    St P L G w0 X0 C (upd ρ [(L.ab + k, .arr true x.sz x.ty (l.set i v'))]) a (w.setCells g (i * x.sz) us) ∧ ∃ cells, w.heap[g]? = some (.cells cells x.ty (0, 0)) ∧ i * x.sz + us.length ≤ cells.size := by
  obtain ⟨l1, l2, l3, l4⟩ := layOk_spec hL
  obtain ⟨hk, l', xs, e1, h3, h4, h5, h6, h7⟩ := S.arr k x hx
  rw [hρ] at e1
  injection e1 with _ _ _ e1
  subst e1
  obtain ⟨hxl, h6'⟩ := h6
  rcases h6' with ⟨e, _⟩ | ⟨g', cap, cur, e, hb, hc, hn, hcap, hcs, htk⟩
  · rw [e] at hg; simp [Value.ownBlock] at hg
  · rw [e] at hg
    have hgg : g' = g := by simpa [Value.ownBlock] using hg
    subst hgg
    obtain ⟨cs', k1, k2, k3, k4, k5, k6, k7, k8⟩ := setCells_at g' us (i * x.sz) w cur x.ty hc
    have hin : i * x.sz + x.sz ≤ x.n * x.sz := by
      have : (i + 1) * x.sz ≤ x.n * x.sz := Nat.mul_le_mul_right _ (by omega)
      rw [Nat.add_mul] at this
      omega
    have hcn : x.n * x.sz ≤ cap * x.sz := Nat.mul_le_mul_right _ hn
    have hhot : C.hot g' := .inr (.inr ⟨k, x, hx, hmu, by rw [e]; rfl⟩)
    have hle : Le C w C (w.setCells g' (i * x.sz) us) := ⟨fun _ _ h => h, fun k x h => ⟨x, h, Nat.le_refl _, rfl, fun _ => rfl⟩, fun b' _ hh => ⟨hh, k4 b' fun e => hh (e ▸ hhot)⟩⟩
    have E : ∀ t, upd ρ [(L.ab + k, V.arr true x.sz x.ty (l.set i v'))] t = if t = L.ab + k then .arr true x.sz x.ty (l.set i v') else ρ t := fun t => rfl
    have hB0 : Below w0.heap.size w (w.setCells g' (i * x.sz) us) := ⟨k6, k7, k8, by rw [k5]; exact Nat.le_refl _, fun b hb' => k4 b (by omega)⟩
    refine ⟨⟨S.tsz, S.defs, fun t ht => ?_, fun id b h => ?_, fun j y h => ?_, fun j q s e' l2 hj h => ?_, S.il, S.ila, S.ia, S.ext, S.below.trans hB0, hG _ _ S.g hB0, S.cx⟩, cur, hc, by omega⟩
    · rw [E, if_neg (by omega)]
      exact Rel_mono hle _ _ (S.tmp t ht)
    · obtain ⟨h1, h2, base, n, m3, us2, ty2, m4, m5, m6⟩ := S.loc id b h
      obtain ⟨g1, g2, g3⟩ := l3 id base n m3
      refine ⟨h1, by rw [E, if_neg (by omega)]; exact h2, base, n, m3, us2, ty2, (k4 b fun eb => S.ila id b k x h hx (by rw [e]; show some g' = some b; rw [eb])).trans m4, m5, fun j hj => ?_⟩
      rw [E, if_neg (by omega)]
      exact Rel_mono hle _ _ (m6 j hj)
    · by_cases ej : j = k
      · subst ej
        rw [hx] at h
        injection h with h
        subst h
        refine ⟨hk, l.set i v', xs.take (i * x.sz) ++ us ++ xs.drop (i * x.sz + x.sz), by rw [E, if_pos rfl, hmu], by rw [List.length_set]; exact h3, h4, h5, ⟨?_, .inr ⟨g', cap, cs', e, hb, k1, hn, hcap, by rw [k2]; exact hcs, ?_⟩⟩, RowL_set (relP_mono hle.cold _ _ hr) hlen l xs i (RowL_mono hle.cold l xs h7) hi⟩
        · simp only [List.length_append, List.length_take, List.length_drop]
          omega
        · apply List.ext_getElem?
          intro j
          by_cases c1 : j < x.n * x.sz
          · rw [List.getElem?_take, if_pos c1, Array.getElem?_toList, Array.getElem?_eq_getElem (by omega)]
            have hj := k3 j
            rw [Array.getD_eq_getD_getElem?, Array.getElem?_eq_getElem (by omega), Option.getD_some] at hj
            rw [hj]
            have hold : ∀ (hlt : j < cur.size), xs[j]? = some (cur[j]'hlt) := by
              intro hlt
              rw [← htk, List.getElem?_take, if_pos c1, Array.getElem?_toList, Array.getElem?_eq_getElem hlt]
            by_cases c2 : i * x.sz ≤ j ∧ j < i * x.sz + us.length ∧ j < cur.size
            · rw [if_pos c2, List.append_assoc, List.getElem?_append_right (by simp; omega), List.getElem?_append_left (by simp; omega), List.getD_eq_getElem?_getD]
              rw [show j - (xs.take (i * x.sz)).length = j - i * x.sz by simp; omega, List.getElem?_eq_getElem (show j - i * x.sz < us.length by omega)]
              rfl
            · rw [if_neg c2, Array.getD_eq_getD_getElem?, Array.getElem?_eq_getElem (show j < cur.size by omega), Option.getD_some]
              by_cases c3 : j < i * x.sz
              · rw [List.append_assoc, List.getElem?_append_left (by simp; omega), List.getElem?_take, if_pos c3, hold]
              · rw [List.getElem?_append_right (by simp; omega), List.getElem?_drop, show i * x.sz + x.sz + (j - (xs.take (i * x.sz) ++ us).length) = j by simp; omega, hold]
          · rw [List.getElem?_eq_none (by simp; omega), List.getElem?_eq_none (by simp; omega)]
      · obtain ⟨h1, l2, xs2, m2, m3, m4, m5, m6, m7⟩ := S.arr j y h
        exact ⟨h1, l2, xs2, by rw [E, if_neg (by omega)]; exact m2, m3, m4, m5, ownsRow_below m6 fun b hb' => k4 b fun eb => ej (S.ia j k y x g' h hx (eb ▸ hb') (by rw [e]; rfl)), RowL_mono hle.cold l2 xs2 m7⟩
    · rw [E] at h
      by_cases ej : j = k
      · subst ej; exact ⟨x, hx⟩
      · rw [if_neg (by omega)] at h
        exact S.arn j q s e' l2 hj h
theorem St.none_of_dead (S : St P L G w0 X0 C ρ a w) {k : Nat} (hd : isDead (ρ (L.ab + k)) = true) : C.arr k = none := by
  cases h : C.arr k with
  | none => rfl
  | some x =>
    obtain ⟨_, l, xs, h2, _⟩ := S.arr k x h
    rw [isDead_eq hd] at h2
    cases h2
/-- writes to a temporary and to an array -/
theorem upd_dst_arr (ρ : Nat → V) {d : Option Nat} {v x : V} {t : Nat} (h : ∀ d', d = some d' → d' ≠ t) : upd ρ (dstW v d ++ [(t, x)]) = upd (upd ρ [(t, x)]) (dstW v d) := by
  rw [upd_append]
  exact upd_comm ρ fun p hp q hq => by
    simp only [List.mem_singleton] at hq
    subst hq
    cases d with
    | none => simp [dstW] at hp
    | some d' => simp [dstW] at hp; subst hp; exact h d' rfl
end
end Go.Proofs.YtmbdbkcifmkpbaaGreatDoor.Den
end
section
set_option linter.unusedVariables false
set_option linter.unnecessarySimpa false
set_option linter.unusedSimpArgs false
namespace Go.Proofs.YtmbdbkcifmkpbaaGreatDoor.Den
open Go Go.RowKit

def appIs (P : Program) (t : TypeId) (sz bytes e : Nat) : Bool :=
  match P.underlying t with
  | some (.slice e') => match P.info? e' with
    | some i => match i.zero with
      | some z => decide (e' = e) && (decide (i.size = sz) && (decide (i.bytes = bytes) && (decide (z.cells.size = sz) && decide (0 < sz))))
      | none => false
    | none => false
  | _ => false
def callIs (P : Program) (f : Nat) : Bool :=
  match P.funcs[f]? with
  | some fn => fn.body.isSome && fn.name != "runtime.NumGoroutine"
  | none => false

section
variable {P : Program} {L : Lay} {G : World → Prop} {w0 : World} {X0 : Nat → Prop} {C : Ctx} {ρ : Nat → V} {a : Act} {w : World}

theorem run_append_empty {t ty e : TypeId} {i : TypeInfo} (hu : P.underlying t = some (.slice e)) (hi : P.info? e = some i) (base A : Option Addr) (n cap c : Nat) (hn : n ≤ cap) :
    (Builtin.append_ #[t, t] ty #[.slice base n cap, .slice A 0 c]).run P w = .ok (.slice base n cap) w := by
  cases A <;> cases base <;> simp [Builtin.append_, run_underlying hu, sizeOf, typeInfo, hi, Builtin.lenOf, Builtin.firstCells, loadCells, loadCellsFrom, storeCells, hn]

/-- the elements of a slice, in its cells -/
theorem elems_row {ra : Bool} {v : V} {l : List V} {u : Value} (S : St P L G w0 X0 C ρ a w) (h : elems L ρ ra v = some l) (hr : Rel C w v u) (hne : l ≠ []) :
    ∃ ad c sz xs, u = .slice (some ad) l.length c ∧ RowL C.hot w sz l xs ∧ 0 < sz ∧ ∀ j u, xs[j]? = some u → w.cell? (ad.add j) = some u := by
  obtain ⟨A, c, e, h1, h2⟩ := elems_len S h hr
  cases v with
  | nil0 => simp only [elems, Option.some.injEq] at h; exact absurd h.symm hne
  | lst l' =>
    simp only [elems, Option.some.injEq] at h
    subst h
    unfold Rel relP at hr
    obtain ⟨A', c', e2, _, _, h3⟩ := hr
    simp only [List.cons.injEq, and_true] at e2
    rcases h3 with h3 | ⟨b, o, sz, eA, hs, hh, hrow⟩
    · exact absurd h3 hne
    · obtain ⟨xs, g1, g2⟩ := relRow_RowL l' 0 hrow
      refine ⟨⟨b, o, none⟩, c', sz, xs, by rw [e2, eA], g1, hs, fun j u hj => ?_⟩
      rw [Addr.add_mid]
      have := g2 j u hj
      rw [Nat.zero_mul, Nat.add_zero] at this
      exact this
  | own k n =>
    obtain ⟨x, xs, hx, _, _, hn, hl, hb, hsz, ho, hrow⟩ := elems_own S h
    unfold Rel at hr
    obtain ⟨x', hx', _, _, hu⟩ := hr
    rw [hx] at hx'
    injection hx' with hx'
    subst hx'
    have hu := hu (by omega)
    have hpos : 0 < l.length := List.length_pos_iff.2 hne
    rcases ho.2 with ⟨e2, h0⟩ | ⟨g, cap, cur, e2, _, _, _⟩
    · omega
    · refine ⟨⟨g, 0, none⟩, cap, x.sz, xs, by rw [hu, e2, hl], hrow, hsz, fun j u hj => ?_⟩
      rw [Addr.add_mid, Nat.zero_add]
      exact ownsRow_cells ho (by rw [e2]; rfl) j u hj
  | dead => simp [elems] at h
  | bool _ => simp [elems] at h
  | int _ _ => simp [elems] at h
  | fn _ => simp [elems] at h
  | str _ => simp [elems] at h
  | agg _ => simp [elems] at h
  | tup _ => simp [elems] at h
  | ptr _ _ => simp [elems] at h
  | ept _ _ _ => simp [elems] at h
  | epo _ _ _ _ => simp [elems] at h
  | arr _ _ _ _ => simp [elems] at h
theorem relP_one {hot : Nat → Prop} {v : V} {u : Value} (h : relP hot w v [u]) (hc : cellB v = true) : u.oneCell' = true := by
  cases v <;> simp only [cellB] at hc <;> try (cases hc)
  · unfold relP at h; simp only [List.cons.injEq, and_true] at h; rw [h]; rfl
  · unfold relP at h; simp only [List.cons.injEq, and_true] at h; rw [h]; rfl
  · unfold relP at h; simp only [List.cons.injEq, and_true] at h; rw [h]; rfl
  · unfold relP at h; simp only [List.cons.injEq, and_true] at h; rw [h]; rfl
  · unfold relP at h; simp only [List.cons.injEq, and_true] at h; rw [h]; rfl
  · unfold relP at h; obtain ⟨A, c, e, _⟩ := h; simp only [List.cons.injEq, and_true] at e; rw [e]; rfl
  · unfold relP at h; exact h.elim
theorem relPL_one {hot : Nat → Prop} : ∀ (l : List V) (us : List Value), relPL hot w l us → ∀ u ∈ us, u.oneCell' = true
  | [], us, h => by unfold relPL at h; subst h; simp
  | v :: l, us, h => by
    unfold relPL at h
    obtain ⟨u, us', rfl, h0, h1, h2⟩ := h
    intro x hx
    rcases List.mem_cons.1 hx with rfl | hx
    · exact relP_one h1 h0
    · exact relPL_one l us' h2 x hx
theorem relP_ones {hot : Nat → Prop} {v : V} {us : List Value} (h : relP hot w v us) : ∀ u ∈ us, u.oneCell' = true := by
  cases v with
  | agg l => unfold relP at h; exact relPL_one l us h
  | bool b => unfold relP at h; subst h; simp [Value.oneCell']
  | int k n => unfold relP at h; subst h; simp [Value.oneCell']
  | fn f => unfold relP at h; subst h; simp [Value.oneCell']
  | str s => unfold relP at h; subst h; simp [Value.oneCell']
  | nil0 => unfold relP at h; subst h; simp [Value.oneCell']
  | lst l => unfold relP at h; obtain ⟨A, c, rfl, _⟩ := h; simp [Value.oneCell']
  | dead => unfold relP at h; exact h.elim
  | tup l => unfold relP at h; exact h.elim
  | own k n => unfold relP at h; exact h.elim
  | ptr id off => unfold relP at h; exact h.elim
  | ept l i off => unfold relP at h; exact h.elim
  | epo k n i off => unfold relP at h; exact h.elim
  | arr q s e l => unfold relP at h; exact h.elim
theorem RowL_ones {hot : Nat → Prop} {sz : Nat} : ∀ (l : List V) (xs : List Value), RowL hot w sz l xs → ∀ u ∈ xs, u.oneCell' = true
  | [], xs, h => by rw [show xs = [] from h]; simp
  | v :: l, xs, h => by
    obtain ⟨us, rest, rfl, _, h3, h4⟩ := h
    intro x hx
    rcases List.mem_append.1 hx with hx | hx
    · exact relP_ones h3 x hx
    · exact RowL_ones l rest h4 x hx
theorem sizesB_RowL {n sz : Nat} : ∀ (l : List V) (xs : List Value), sizesB n l = true → l ≠ [] → RowL C.hot w sz l xs → sz = n
  | [], xs, h, hne, _ => absurd rfl hne
  | v :: l, xs, h, _, hr => by
    obtain ⟨us, rest, _, h2, h3, _⟩ := hr
    unfold sizesB at h
    rw [Bool.and_eq_true, decide_eq_true_iff] at h
    rw [← h2, relP_size h3]
    exact h.1

theorem sim_app {D : Nat → List V → Option V} {x y : Sr} {X Y : Operand} {t ty : TypeId} {k sz bytes e : Nat} {d : Option Nat} {v : V} {ws : Wr} (S : St P L G w0 X0 C ρ a w) (hL : layOk L = true) (hG : ∀ w w', G w → Below w0.heap.size w w' → G w')
    (hd : ∀ t, d = some t → t < L.nt) (hs : dstB ρ d = true) (hx : chkSr L X x = true) (hy : chkSr L Y y = true) (ht : appIs P t sz bytes e = true) (h : opV D L ρ d (.app x y k sz bytes e) = some (v, ws)) :
    ∃ u w' C', (Builtin.append_ #[t, t] ty #[a.eval X, a.eval Y]).run P w = .ok u w' ∧ St P L G w0 X0 C' (upd ρ (dstW v d ++ ws)) (a.put d u) w' := by
  obtain ⟨l1, l2, l3, l4⟩ := layOk_spec hL
  have hX := ev_rel S hx
  have hY := ev_rel S hy
  unfold appIs at ht
  split at ht
  · rename_i e' hu
    split at ht
    · rename_i i hi
      split at ht
      · rename_i z hz
        simp only [Bool.and_eq_true, decide_eq_true_iff] at ht
        obtain ⟨t0, t1, t2, t3, t4⟩ := ht
        subst t0
        unfold opV at h
        dsimp only at h
        obtain ⟨ys, hys, h⟩ := Option.bind_eq_some_iff.1 h
        have hylen := elems_len S hys hY
        obtain ⟨Ay, cy, eY, _, _⟩ := hylen
        -- what is appended, and what the append comes to
        have APP : ∀ (v0 : Value) (n : Nat) (xs : List Value), w.ownsRow w0.heap.size e' sz v0 n xs → ys ≠ [] → n + ys.length ≤ big → (n + ys.length) * bytes ≤ 140737488355328 → sizesB sz ys = true →
            ∃ v' w' news, (Builtin.append_ #[t, t] ty #[v0, a.eval Y]).run P w = .ok v' w' ∧ w'.ownsRow w0.heap.size e' sz v' (n + ys.length) (xs ++ news) ∧ w.grownBy w' v0.ownBlock ∧ (v'.ownBlock = v0.ownBlock ∨ v'.ownBlock = some w.heap.size) ∧ RowL C.hot w sz ys news := by
          intro v0 n xs ho hne hb hby hsz
          obtain ⟨ad, c, sz', news, e2, g1, g2, g3⟩ := elems_row S hys hY hne
          have hsz' : sz' = sz := sizesB_RowL ys news hsz hne g1
          subst hsz'
          obtain ⟨v', w', r1, r2, r3, _, r5⟩ := run_append_own_at (P := P) (w := w) w0.heap.size t ty e' i z sz' bytes hu hi hz t1 t2 t3 t4 v0 n xs ho ad ys.length c news (RowL_length ys news g1) g3 (RowL_ones ys news g1) (by simp only [maxLen]; exact hb) hby S.below.size
          exact ⟨v', w', news, by rw [e2]; exact r1, r2, r3, r5, g1⟩
        split at h
        · rename_i hsz
          split at h
          · rename_i e2
            rw [e2] at hX
            unfold Rel at hX
            split at h
            · rename_i hk
              obtain ⟨k1, k2, k3, k4⟩ := hk
              simp only [Option.some.injEq, Prod.mk.injEq] at h
              obtain ⟨rfl, rfl⟩ := h
              have hnone := S.none_of_dead k2
              have hdt : ∀ d', d = some d' → d' ≠ L.ab + k := fun d' e => by have := hd d' e; omega
              have FIN : ∀ (u : Value) (w' : World) (xs' : List Value), w.grownBy w' none → (∀ b, u.ownBlock = some b → w.heap.size ≤ b) → w'.ownsRow w0.heap.size e' sz u ys.length xs' → RowL C.hot w sz ys xs' → u.oneCell' = true →
                  ∃ C', St P L G w0 X0 C' (upd ρ (dstW (.own k ys.length) d ++ [(L.ab + k, .arr true sz e' ys)])) (a.put d u) w' := by
                intro u w' xs' hg hf ho hr hone
                have hrow : rowOf C k = none := by unfold rowOf; rw [hnone]; rfl
                obtain ⟨S', hle⟩ := S.setarr hL hG (k := k) (w' := w') (l' := ys) (xs' := xs') (x' := ⟨u, ys.length, sz, e', true⟩) k1 rfl (by rw [hrow]; exact hg) (fun x hx => by rw [hnone] at hx; cases hx) (fun b hb => .inr (hf b hb)) ho hr rfl k4 t4
                refine ⟨C.withArr k ⟨u, ys.length, sz, e', true⟩, ?_⟩
                rw [upd_dst_arr ρ hdt]
                refine S'.put hL hd ?_ ?_
                · cases d with
                  | none => rfl
                  | some d' =>
                    have : upd ρ [(L.ab + k, V.arr true sz e' ys)] d' = ρ d' := upd_out _ _ _ (fun p hp => by simp at hp; subst hp; exact Ne.symm (hdt d' rfl))
                    unfold dstB at hs ⊢
                    dsimp only at hs ⊢
                    rw [this]; exact hs
                · unfold Rel
                  exact ⟨⟨u, ys.length, sz, e', true⟩, by simp [Ctx.withArr], Nat.le_refl _, hone, fun _ => rfl⟩
              by_cases hne : ys = []
              · subst hne
                obtain ⟨C', S'⟩ := FIN (.slice none 0 0) w [] ⟨rfl, rfl, rfl, Nat.le_refl _, fun _ _ _ => rfl⟩ (fun b hb => by simp [Value.ownBlock] at hb) (World.ownsRow_nil w _ e' sz) rfl rfl
                refine ⟨.slice none 0 0, w, C', ?_, S'⟩
                rw [hX, eY]
                exact run_append_empty hu hi none Ay 0 0 cy (Nat.le_refl _)
              · obtain ⟨v', w', news, r1, r2, r3, r4, r5⟩ := APP (.slice none 0 0) 0 [] (World.ownsRow_nil w _ e' sz) hne (by omega) (by rw [Nat.zero_add]; exact k3) hsz
                rw [Nat.zero_add, List.nil_append] at r2
                have hone : v'.oneCell' = true := by
                  rcases r2.2 with ⟨e3, _⟩ | ⟨g, cap, cur, e3, _⟩ <;> rw [e3] <;> rfl
                obtain ⟨C', S'⟩ := FIN v' w' news r3 (fun b hb => by
                  rcases r4 with r4 | r4
                  · rw [r4] at hb; simp [Value.ownBlock] at hb
                  · rw [r4] at hb; simp at hb; omega) r2 r5 hone
                exact ⟨v', w', C', by rw [hX]; exact r1, S'⟩
            · simp at h
          · rename_i k' n e2
            rw [e2] at hX
            split at h
            · rename_i hk
              split at h
              · rename_i sz2 ee l e3
                split at h
                · rename_i hc
                  obtain ⟨c1, c2, c3, c4⟩ := hc
                  simp only [Option.some.injEq, Prod.mk.injEq] at h
                  obtain ⟨rfl, rfl⟩ := h
                  obtain ⟨⟨rfl, rfl⟩, c2⟩ : (sz2 = sz ∧ ee = e') ∧ True := ⟨c2, trivial⟩
                  obtain ⟨x0, hx0⟩ := S.arn k' true _ _ l hk e3
                  obtain ⟨_, l2, xs, q1, q2, q3, q4, q5, q6⟩ := S.arr k' x0 hx0
                  rw [e3] at q1
                  injection q1 with q1 q1a q1b q1'
                  subst q1'
                  unfold Rel at hX
                  obtain ⟨x1, hx1, _, _, hu1⟩ := hX
                  rw [hx0] at hx1
                  injection hx1 with hx1
                  subst hx1
                  have hv := hu1 (by omega)
                  have hdt : ∀ d', d = some d' → d' ≠ L.ab + k' := fun d' e => by have := hd d' e; omega
                  have hdst : ∀ V', dstB (upd ρ [(L.ab + k', V')]) d = true := by
                    intro V'
                    cases d with
                    | none => rfl
                    | some d' =>
                      have : upd ρ [(L.ab + k', V')] d' = ρ d' := upd_out _ _ _ (fun p hp => by simp at hp; subst hp; exact Ne.symm (hdt d' rfl))
                      unfold dstB at hs ⊢
                      dsimp only at hs ⊢
                      rw [this]; exact hs
                  by_cases hne : ys = []
                  · subst hne
                    refine ⟨a.eval X, w, C, ?_, ?_⟩
                    · rw [eY, hv]
                      rcases q5.2 with ⟨e4, e5⟩ | ⟨g, cap, cur, e4, _, _, h5, _⟩
                      · rw [e4]; exact run_append_empty hu hi none Ay 0 0 cy (Nat.le_refl _)
                      · rw [e4]; exact run_append_empty hu hi _ Ay _ cap cy h5
                    · rw [upd_dst_arr ρ hdt]
                      have hsame : upd ρ [(L.ab + k', V.arr true sz2 ee (l ++ []))] = ρ := by
                        funext t
                        show (if t = L.ab + k' then V.arr true sz2 ee (l ++ []) else ρ t) = ρ t
                        by_cases e : t = L.ab + k'
                        · rw [if_pos e, e, e3, List.append_nil]
                        · rw [if_neg e]
                      rw [hsame]
                      refine S.put hL hd hs ?_
                      rw [hv]
                      unfold Rel
                      refine ⟨x0, hx0, by simp; omega, ?_, fun _ => rfl⟩
                      rcases q5.2 with ⟨e4, _⟩ | ⟨g, cap, cur, e4, _⟩ <;> rw [e4] <;> rfl
                  · have hlne : 0 < ys.length := List.length_pos_iff.2 hne
                    have hty : w.ownsRow w0.heap.size ee sz2 x0.v l.length xs := by rw [q1a, q1b, q2]; exact q5
                    obtain ⟨v', w', news, r1, r2, r3, r4, r5⟩ := APP x0.v l.length xs hty hne c4 c3 hsz
                    have hrow : rowOf C k' = x0.v.ownBlock := by unfold rowOf; rw [hx0]; rfl
                    have hone : v'.oneCell' = true := by
                      rcases r2.2 with ⟨e3, _⟩ | ⟨g, cap, cur, e3, _⟩ <;> rw [e3] <;> rfl
                    obtain ⟨S', hle⟩ := S.setarr hL hG (k := k') (x' := ⟨v', l.length + ys.length, sz2, ee, true⟩) (l' := l ++ ys) (xs' := xs ++ news) hk rfl (by rw [hrow]; exact r3)
                      (fun x hx => by rw [hx0] at hx; injection hx with hx; subst hx; exact ⟨q1.symm, by show x0.n < l.length + ys.length; omega, q1a⟩)
                      (fun b hb => by
                        rw [hrow]
                        rcases r4 with r4 | r4
                        · left; rw [← r4]; exact hb
                        · right; have hb' : v'.ownBlock = some b := hb; rw [r4] at hb'; simp at hb'; omega)
                      r2 (RowL_append l ys xs news (by rw [q1a]; exact q6) r5) (by rw [List.length_append]) c4 t4
                    refine ⟨v', w', C.withArr k' ⟨v', l.length + ys.length, sz2, ee, true⟩, by rw [hv]; exact r1, ?_⟩
                    rw [upd_dst_arr ρ hdt]
                    refine S'.put hL hd (hdst _) ?_
                    unfold Rel
                    exact ⟨⟨v', l.length + ys.length, sz2, ee, true⟩, by simp [Ctx.withArr], Nat.le_refl _, hone, fun _ => rfl⟩
                · simp at h
              · simp at h
            · simp at h
          · simp at h
        · simp at h
      · cases ht
    · cases ht
  · cases ht
end
end Go.Proofs.YtmbdbkcifmkpbaaGreatDoor.Den
end
section
set_option linter.unusedVariables false
set_option linter.unnecessarySimpa false
set_option linter.unusedSimpArgs false
namespace Go.Proofs.YtmbdbkcifmkpbaaGreatDoor.Den
open Go Go.RowKit

def ctx0 (F : Nat → Prop) : Ctx := ⟨F, fun _ => none, fun _ => none⟩
theorem hot0 (F : Nat → Prop) (b : Nat) : (ctx0 F).hot b ↔ F b := by
  unfold Ctx.hot ctx0
  simp
/-- What a call is sworn to do. -/
def Sp (P : Program) (G : World → Prop) (f : Nat) (args : List V) (r : V) : Prop :=
  ∀ (F : Nat → Prop) (w : World) (us : List Value), (∀ b, F b → b < w.heap.size) → G w → RelL (ctx0 F) w args us →
    Calls P f us.toArray w fun e w' => ∃ u, e = .returned u ∧ Rel (ctx0 F) w' r u ∧ Below w.heap.size w w'

/-- A context with one array of one's own. -/
def arr1 (F : Nat → Prop) (x : ArrC) : Ctx := ⟨F, fun _ => none, fun k => if k = 0 then some x else none⟩
/-- What a call is sworn to do that hands over an array. -/
def SpF (P : Program) (G : World → Prop) (f : Nat) (args : List V) (r : V) : Prop :=
  ∃ (r' : V) (sz ty : Nat) (l : List V), r = .tup [r', .arr true sz ty l] ∧ ∀ (F : Nat → Prop) (w : World) (us : List Value), (∀ b, F b → b < w.heap.size) → G w → RelL (ctx0 F) w args us →
    Calls P f us.toArray w fun e w' => ∃ u v xs, e = .returned u ∧ Below w.heap.size w w' ∧ l.length ≤ big ∧ 0 < sz ∧ w'.ownsRow w.heap.size ty sz v l.length xs ∧
      RowL (arr1 F ⟨v, l.length, sz, ty, true⟩).hot w' sz l xs ∧ Rel (arr1 F ⟨v, l.length, sz, ty, true⟩) w' r' u
def SpA (P : Program) (G : World → Prop) (f : Nat) (args : List V) (r : V) : Prop := (f < FR → Sp P G f args r) ∧ (FR ≤ f → SpF P G (f - FR) args r)
/-- arrays, not to be written any more -/
def Ctx.frz (C : Ctx) (ks : List Nat) : Ctx := { C with arr := fun k => (C.arr k).map fun x => if k ∈ ks then { x with mu := false } else x }
section
variable {P : Program} {L : Lay} {G : World → Prop} {w0 : World} {X0 : Nat → Prop} {C : Ctx} {ρ : Nat → V} {a : Act} {w : World}
theorem frz_hot {ks : List Nat} {b : Nat} (h : (C.frz ks).hot b) : C.hot b := by
  rcases h with h | h | ⟨k, x, h, h1, h2⟩
  · exact .inl h
  · exact .inr (.inl h)
  · unfold Ctx.frz at h
    simp only [Option.map_eq_some_iff] at h
    obtain ⟨y, hy, rfl⟩ := h
    by_cases hk : k ∈ ks
    · rw [if_pos hk] at h1; cases h1
    · rw [if_neg hk] at h1 h2
      exact .inr (.inr ⟨k, y, hy, h1, h2⟩)
theorem frz_le (ks : List Nat) : Le C w (C.frz ks) w := by
  refine ⟨fun id b h => h, fun k x h => ?_, fun b _ hh => ⟨fun h => hh (frz_hot h), rfl⟩⟩
  refine ⟨if k ∈ ks then { x with mu := false } else x, by simp [Ctx.frz, h], ?_⟩
  split <;> exact ⟨Nat.le_refl _, rfl, fun _ => rfl⟩
theorem upd_map {f : Nat → V} {ab : Nat} : ∀ (ks : List Nat) (ρ : Nat → V) (t : Nat), upd ρ (ks.map fun k => (ab + k, f k)) t = if ab ≤ t ∧ t - ab ∈ ks then f (t - ab) else ρ t
  | [], ρ, t => by simp [upd]
  | k :: ks, ρ, t => by
    rw [List.map_cons]
    show upd (upd1 ρ (ab + k) (f k)) (ks.map fun k => (ab + k, f k)) t = _
    rw [upd_map ks _ t]
    unfold upd1
    by_cases h1 : ab ≤ t ∧ t - ab ∈ ks
    · rw [if_pos h1, if_pos ⟨h1.1, List.mem_cons_of_mem _ h1.2⟩]
    · rw [if_neg h1]
      by_cases h2 : t = ab + k
      · subst h2
        rw [if_pos rfl, Nat.add_sub_cancel_left, if_pos ⟨by omega, List.mem_cons_self ..⟩]
      · rw [if_neg h2, if_neg]
        rintro ⟨h3, h4⟩
        rcases List.mem_cons.1 h4 with h4 | h4
        · omega
        · exact h1 ⟨h3, h4⟩
theorem St.frz (S : St P L G w0 X0 C ρ a w) (hL : layOk L = true) (ks : List Nat) : St P L G w0 X0 (C.frz ks) (upd ρ (frz L ρ ks)) a w := by
  obtain ⟨l1, l2, l3, l4⟩ := layOk_spec hL
  have hle : Le C w (C.frz ks) w := frz_le ks
  have E : ∀ t, upd ρ (Den.frz L ρ ks) t = if L.ab ≤ t ∧ t - L.ab ∈ ks then (match ρ (L.ab + (t - L.ab)) with | .arr _ s e l => .arr false s e l | v => v) else ρ t := fun t => upd_map ks ρ t
  have E1 : ∀ t, t < L.ab → upd ρ (Den.frz L ρ ks) t = ρ t := fun t h => by rw [E, if_neg (by omega)]
  have A : ∀ k y, (C.frz ks).arr k = some y → ∃ x, C.arr k = some x ∧ y = if k ∈ ks then { x with mu := false } else x := by
    intro k y h
    unfold Ctx.frz at h
    simp only [Option.map_eq_some_iff] at h
    obtain ⟨x, hx, rfl⟩ := h
    exact ⟨x, hx, rfl⟩
  refine ⟨S.tsz, S.defs, fun t ht => ?_, fun id b h => ?_, fun k y h => ?_, fun k q s e l hk h => ?_, S.il, fun id b k y h h' => ?_, fun k k' y y' b h h' hb hb' => ?_, S.ext, S.below, S.g, S.cx⟩
  · rw [E1 t (by omega)]
    exact Rel_mono hle _ _ (S.tmp t ht)
  · obtain ⟨h1, h2, base, n, h3, us, ty, h4, h5, h6⟩ := S.loc id b h
    obtain ⟨g1, g2, g3⟩ := l3 id base n h3
    refine ⟨h1, by rw [E1 id (by omega)]; exact h2, base, n, h3, us, ty, h4, h5, fun j hj => ?_⟩
    rw [E1 _ (by omega)]
    exact Rel_mono hle _ _ (h6 j hj)
  · obtain ⟨x, hx, rfl⟩ := A k y h
    obtain ⟨h1, l, xs, h2, h3, h4, h5, h6, h7⟩ := S.arr k x hx
    refine ⟨h1, l, xs, ?_, ?_⟩
    · rw [E, Nat.add_sub_cancel_left]
      by_cases hk : k ∈ ks
      · rw [if_pos ⟨by omega, hk⟩, if_pos hk, h2]
      · rw [if_neg (fun e => hk e.2), if_neg hk, h2]
    · by_cases hk : k ∈ ks
      · rw [if_pos hk]; exact ⟨h3, h4, h5, h6, RowL_mono hle.cold l xs h7⟩
      · rw [if_neg hk]; exact ⟨h3, h4, h5, h6, RowL_mono hle.cold l xs h7⟩
  · rw [E, Nat.add_sub_cancel_left] at h
    have : ∃ q s e l, ρ (L.ab + k) = .arr q s e l := by
      by_cases hk' : k ∈ ks
      · rw [if_pos ⟨by omega, hk'⟩] at h
        split at h
        · rename_i q s e l e'; exact ⟨q, s, e, l, e'⟩
        · exact ⟨_, _, _, _, h⟩
      · rw [if_neg (fun e => hk' e.2)] at h
        exact ⟨_, _, _, _, h⟩
    obtain ⟨q', s', e', l', h'⟩ := this
    obtain ⟨x, hx⟩ := S.arn k q' s' e' l' hk h'
    exact ⟨if k ∈ ks then { x with mu := false } else x, by simp only [Ctx.frz, hx, Option.map_some]⟩
  · obtain ⟨x, hx, rfl⟩ := A k y h'
    have := S.ila id b k x h hx
    split <;> exact this
  · obtain ⟨x, hx, rfl⟩ := A k y h
    obtain ⟨x', hx', rfl⟩ := A k' y' h'
    refine S.ia k k' x x' b hx hx' ?_ ?_
    · split at hb <;> exact hb
    · split at hb' <;> exact hb'

mutual
/-- handed on: in a context that has nothing of its own -/
theorem shr_Rel (S : St P L G w0 X0 C ρ a w) {ra : Bool} {ks : List Nat} : ∀ (v v' : V) (u : Value), shr L ρ ra v = some v' → (∀ k ∈ owns v, k ∈ ks) → Rel C w v u → Rel (ctx0 (C.frz ks).hot) w v' u
  | .bool b, v', u, h, hk, hr => by simp only [shr, Option.some.injEq] at h; subst h; unfold Rel at hr ⊢; exact hr
  | .int k n, v', u, h, hk, hr => by simp only [shr, Option.some.injEq] at h; subst h; unfold Rel at hr ⊢; exact hr
  | .fn f, v', u, h, hk, hr => by simp only [shr, Option.some.injEq] at h; subst h; unfold Rel at hr ⊢; exact hr
  | .str s, v', u, h, hk, hr => by simp only [shr, Option.some.injEq] at h; subst h; unfold Rel at hr ⊢; exact hr
  | .nil0, v', u, h, hk, hr => by simp only [shr, Option.some.injEq] at h; subst h; unfold Rel at hr ⊢; exact hr
  | .lst l, v', u, h, hk, hr => by
    simp only [shr, Option.some.injEq] at h
    subst h
    unfold Rel at hr ⊢
    exact relP_mono (fun b _ hb => ⟨fun h => hb (frz_hot ((hot0 _ b).1 h)), rfl⟩) _ _ hr
  | .own k n, v', u, h, hk, hr => by
    unfold shr at h
    obtain ⟨l, hl, rfl⟩ := Option.map_eq_some_iff.1 h
    obtain ⟨x, xs, hx, hlt, e3, hn, hln, hb, hsz, ho, hrow⟩ := elems_own S hl
    unfold Rel at hr
    obtain ⟨x', hx', _, _, hu⟩ := hr
    rw [hx] at hx'
    injection hx' with hx'
    subst hx'
    have hu := hu (by omega)
    have hkk : k ∈ ks := hk k (by unfold owns; simp)
    unfold Rel relP
    rcases ho.2 with ⟨e4, h0⟩ | ⟨g, cap, cur, e4, hbg, _, h5, _⟩
    · refine ⟨none, 0, by rw [hu, e4, hln, h0], by omega, by omega, .inl (List.eq_nil_of_length_eq_zero (by omega))⟩
    · refine ⟨_, cap, by rw [hu, e4, hln], by omega, by omega, ?_⟩
      by_cases hne : l = []
      · exact .inl hne
      · refine .inr ⟨g, 0, x.sz, rfl, hsz, fun hh => ?_, ?_⟩
        · rw [hot0] at hh
          rcases hh with hh | ⟨id, hh⟩ | ⟨k', y, hy, h1, h2⟩
          · have := S.ext g hh; omega
          · exact S.ila id g k x hh hx (by rw [e4]; rfl)
          · unfold Ctx.frz at hy
            simp only [Option.map_eq_some_iff] at hy
            obtain ⟨y', hy', rfl⟩ := hy
            by_cases hk' : k' ∈ ks
            · rw [if_pos hk'] at h1; cases h1
            · rw [if_neg hk'] at h2
              exact hk' (S.ia k k' x y' g hx hy' (by rw [e4]; rfl) h2 ▸ hkk)
        · refine RowL_relRow l xs 0 (RowL_mono (fun b _ hb => ⟨fun h => hb (frz_hot ((hot0 _ b).1 h)), rfl⟩) l xs hrow) fun j u hj => ?_
          rw [Nat.zero_mul, Nat.zero_add]
          exact ownsRow_cells ho (by rw [e4]; rfl) j u hj
  | .agg l, v', u, h, hk, hr => by
    unfold shr at h
    obtain ⟨l', hl, rfl⟩ := Option.map_eq_some_iff.1 h
    unfold Rel at hr ⊢
    obtain ⟨us, e, hr⟩ := hr
    exact ⟨us, e, shrL_Rel S l l' us hl (fun k h => hk k (by unfold owns; exact h)) hr⟩
  | .dead, v', u, h, hk, hr => by simp [shr] at h
  | .tup _, v', u, h, hk, hr => by simp [shr] at h
  | .ptr _ _, v', u, h, hk, hr => by simp [shr] at h
  | .ept _ _ _, v', u, h, hk, hr => by simp [shr] at h
  | .epo _ _ _ _, v', u, h, hk, hr => by simp [shr] at h
  | .arr _ _ _ _, v', u, h, hk, hr => by simp [shr] at h
theorem shrL_Rel (S : St P L G w0 X0 C ρ a w) {ra : Bool} {ks : List Nat} : ∀ (l l' : List V) (us : List Value), shrL L ρ ra l = some l' → (∀ k ∈ ownsL l, k ∈ ks) → RelL C w l us → RelL (ctx0 (C.frz ks).hot) w l' us
  | [], l', us, h, hk, hr => by simp only [shrL, Option.some.injEq] at h; subst h; unfold RelL at hr ⊢; exact hr
  | v :: l, l', us, h, hk, hr => by
    unfold shrL at h
    obtain ⟨v', hv, h⟩ := Option.bind_eq_some_iff.1 h
    obtain ⟨l2, hl, rfl⟩ := Option.map_eq_some_iff.1 h
    unfold RelL at hr ⊢
    obtain ⟨u, us', e, h1, h2⟩ := hr
    exact ⟨u, us', e, shr_Rel S v v' u hv (fun k h => hk k (by unfold ownsL; exact List.mem_append.2 (.inl h))) h1, shrL_Rel S l l2 us' hl (fun k h => hk k (by unfold ownsL; exact List.mem_append.2 (.inr h))) h2⟩
end
/-- what a call gives back, in the caller's context -/
theorem Rel_lift {F : Nat → Prop} {r : V} {u : Value} (h : Rel (ctx0 F) w r u) (hF : ∀ b, C.hot b → F b) : Rel C w r u :=
  Rel_mono (C := ctx0 F) (w' := w) ⟨(fun id b h => by simp [ctx0] at h), (fun k x h => by simp [ctx0] at h), (fun b _ hb => ⟨fun h => hb ((hot0 F b).2 (hF b h)), rfl⟩)⟩ r u h
mutual
theorem Rel_noLst {F : Nat → Prop} : ∀ (r : V) (u : Value), noLst r = true → Rel (ctx0 F) w r u → Rel C w r u
  | .bool b, u, h, hr => by unfold Rel at hr ⊢; exact hr
  | .int k n, u, h, hr => by unfold Rel at hr ⊢; exact hr
  | .fn f, u, h, hr => by unfold Rel at hr ⊢; exact hr
  | .str s, u, h, hr => by unfold Rel at hr ⊢; exact hr
  | .agg l, u, h, hr => by
    unfold noLst at h
    unfold Rel at hr ⊢
    obtain ⟨us, e, hr⟩ := hr
    exact ⟨us, e, RelL_noLst l us h hr⟩
  | .tup l, u, h, hr => by
    unfold noLst at h
    unfold Rel at hr ⊢
    obtain ⟨us, e, hr⟩ := hr
    exact ⟨us, e, RelL_noLst l us h hr⟩
  | .nil0, u, h, hr => by simp [noLst] at h
  | .lst _, u, h, hr => by simp [noLst] at h
  | .own _ _, u, h, hr => by simp [noLst] at h
  | .dead, u, h, hr => by simp [noLst] at h
  | .ptr _ _, u, h, hr => by simp [noLst] at h
  | .ept _ _ _, u, h, hr => by simp [noLst] at h
  | .epo _ _ _ _, u, h, hr => by simp [noLst] at h
  | .arr _ _ _ _, u, h, hr => by simp [noLst] at h
theorem RelL_noLst {F : Nat → Prop} : ∀ (l : List V) (us : List Value), noLstL l = true → RelL (ctx0 F) w l us → RelL C w l us
  | [], us, h, hr => by unfold RelL at hr ⊢; exact hr
  | v :: l, us, h, hr => by
    unfold noLstL at h
    rw [Bool.and_eq_true] at h
    unfold RelL at hr ⊢
    obtain ⟨u, us', e, h1, h2⟩ := hr
    exact ⟨u, us', e, Rel_noLst v u h.1 h1, RelL_noLst l us' h.2 h2⟩
end

mutual
theorem nm_Rel {C : Ctx} : ∀ (v : V) (u : Value), Rel C w v u → Rel C w (nm v) u
  | .nil0, u, h => by
    unfold Rel at h
    subst h
    unfold nm Rel relP
    exact ⟨none, 0, rfl, Nat.le_refl _, Nat.zero_le _, .inl rfl⟩
  | .agg l, u, h => by
    unfold Rel at h
    unfold nm Rel
    obtain ⟨us, e, h⟩ := h
    exact ⟨us, e, nmL_Rel l us h⟩
  | .tup l, u, h => by
    unfold Rel at h
    unfold nm Rel
    obtain ⟨us, e, h⟩ := h
    exact ⟨us, e, nmL_Rel l us h⟩
  | .dead, u, h => by unfold nm; exact h
  | .bool b, u, h => by unfold nm; exact h
  | .int k n, u, h => by unfold nm; exact h
  | .fn f, u, h => by unfold nm; exact h
  | .str s, u, h => by unfold nm; exact h
  | .lst l, u, h => by unfold nm; exact h
  | .own k n, u, h => by unfold nm; exact h
  | .ptr id off, u, h => by unfold nm; exact h
  | .ept l i off, u, h => by unfold nm; exact h
  | .epo k n i off, u, h => by unfold nm; exact h
  | .arr q s e l, u, h => by unfold nm; exact h
theorem nmL_Rel {C : Ctx} : ∀ (l : List V) (us : List Value), RelL C w l us → RelL C w (nmL l) us
  | [], us, h => by unfold nmL; exact h
  | v :: l, us, h => by
    unfold RelL at h
    unfold nmL RelL
    obtain ⟨u, us', e, h1, h2⟩ := h
    exact ⟨u, us', e, nm_Rel v u h1, nmL_Rel l us' h2⟩
end
theorem hot1 (F : Nat → Prop) (x : ArrC) (b : Nat) : (arr1 F x).hot b ↔ F b ∨ (x.mu = true ∧ x.v.ownBlock = some b) := by
  unfold Ctx.hot arr1
  constructor
  · rintro (h | ⟨id, h⟩ | ⟨k, y, h, h1, h2⟩)
    · exact .inl h
    · cases h
    · simp only at h
      split at h
      · injection h with h
        subst h
        exact .inr ⟨h1, h2⟩
      · cases h
  · rintro (h | ⟨h1, h2⟩)
    · exact .inl h
    · exact .inr (.inr ⟨0, x, rfl, h1, h2⟩)
mutual
theorem ren_Rel {F : Nat → Prop} {x : ArrC} {k : Nat} (hk : C.arr k = some x) (hs : ∀ b, C.hot b → (arr1 F x).hot b) : ∀ (r : V) (u : Value), Rel (arr1 F x) w r u → Rel C w (ren k r) u
  | .own j n, u, h => by
    unfold Rel at h
    unfold ren Rel
    obtain ⟨y, hy, h⟩ := h
    unfold arr1 at hy
    simp only at hy
    split at hy
    · injection hy with hy
      subst hy
      exact ⟨x, hk, h⟩
    · cases hy
  | .agg l, u, h => by
    unfold Rel at h
    unfold ren Rel
    obtain ⟨us, e, h⟩ := h
    exact ⟨us, e, renL_Rel hk hs l us h⟩
  | .tup l, u, h => by
    unfold Rel at h
    unfold ren Rel
    obtain ⟨us, e, h⟩ := h
    exact ⟨us, e, renL_Rel hk hs l us h⟩
  | .dead, u, h => by unfold ren Rel; trivial
  | .bool b, u, h => by unfold ren; unfold Rel at h ⊢; exact h
  | .int k n, u, h => by unfold ren; unfold Rel at h ⊢; exact h
  | .fn f, u, h => by unfold ren; unfold Rel at h ⊢; exact h
  | .str s, u, h => by unfold ren; unfold Rel at h ⊢; exact h
  | .nil0, u, h => by unfold ren; unfold Rel at h ⊢; exact h
  | .lst l, u, h => by
    unfold ren
    unfold Rel at h ⊢
    exact relP_mono (fun b _ hb => ⟨fun h => hb (hs b h), rfl⟩) _ _ h
  | .ptr id off, u, h => by
    unfold Rel at h
    obtain ⟨b, hb, _⟩ := h
    cases hb
  | .ept l i off, u, h => by
    unfold ren
    unfold Rel at h ⊢
    obtain ⟨b, o, sz, h0, h1, h2, h3⟩ := h
    exact ⟨b, o, sz, h0, fun h => h1 (hs b h), relRow_mono (w := w) (w' := w) (hot := (arr1 F x).hot) (fun b _ hb => ⟨fun h => hb (hs b h), rfl⟩) b o sz h1 l 0 h2, h3⟩
  | .epo _ _ _ _, u, h => by unfold ren Rel; trivial
  | .arr _ _ _ _, u, h => by unfold Rel at h; exact h.elim
theorem renL_Rel {F : Nat → Prop} {x : ArrC} {k : Nat} (hk : C.arr k = some x) (hs : ∀ b, C.hot b → (arr1 F x).hot b) : ∀ (l : List V) (us : List Value), RelL (arr1 F x) w l us → RelL C w (renL k l) us
  | [], us, h => by unfold renL; unfold RelL at h ⊢; exact h
  | v :: l, us, h => by
    unfold renL
    unfold RelL at h ⊢
    obtain ⟨u, us', e, h1, h2⟩ := h
    exact ⟨u, us', e, ren_Rel hk hs v u h1, renL_Rel hk hs l us' h2⟩
end
/-- an array that a call hands over -/
theorem St.addarr (S : St P L G w0 X0 C ρ a w) (hL : layOk L = true) (hG : ∀ w w', G w → Below w0.heap.size w w' → G w') {w' : World} (hB : Below w.heap.size w w') {k : Nat} {x : ArrC} {l : List V} {xs : List Value} (hk : L.ab + k < L.nr) (hd : isDead (ρ (L.ab + k)) = true) (hmu : x.mu = true)
    (ho : w'.ownsRow w.heap.size x.ty x.sz x.v x.n xs) (hr : RowL (fun b => C.hot b ∨ x.v.ownBlock = some b) w' x.sz l xs) (hl : l.length = x.n) (hbig : x.n ≤ big) (hsz : 0 < x.sz) :
    St P L G w0 X0 (C.withArr k x) (upd ρ [(L.ab + k, .arr true x.sz x.ty l)]) a w' ∧ ∀ b, (C.withArr k x).hot b → C.hot b ∨ x.v.ownBlock = some b := by
  obtain ⟨l1, l2, l3, l4⟩ := layOk_spec hL
  have hnone := S.none_of_dead hd
  have hge : ∀ b, x.v.ownBlock = some b → w.heap.size ≤ b := fun b hb => (ownsRow_lt ho hb).1
  have hhot : ∀ b, (C.withArr k x).hot b → C.hot b ∨ x.v.ownBlock = some b := by
    intro b h
    rcases h with h | h | ⟨i, y, h, h1, h2⟩
    · exact .inl (.inl h)
    · exact .inl (.inr (.inl h))
    · unfold Ctx.withArr at h
      simp only at h
      split at h
      · injection h with h
        subst h
        exact .inr h2
      · exact .inl (.inr (.inr ⟨i, y, h, h1, h2⟩))
  have hle : Le C w (C.withArr k x) w' := by
    refine ⟨fun id b h => h, fun i y h => ?_, fun b hb hh => ⟨fun h => ?_, hB.block b hb⟩⟩
    · have e : i ≠ k := fun e => by rw [e, hnone] at h; cases h
      exact ⟨y, by simp [Ctx.withArr, e, h], Nat.le_refl _, rfl, fun _ => rfl⟩
    · rcases hhot b h with h | h
      · exact hh h
      · have := hge b h; omega
  have E : ∀ t, upd ρ [(L.ab + k, V.arr true x.sz x.ty l)] t = if t = L.ab + k then .arr true x.sz x.ty l else ρ t := fun t => rfl
  have hsz0 := S.below.size
  refine ⟨⟨S.tsz, S.defs, fun t ht => ?_, fun id b h => ?_, fun i y h => ?_, fun i q s e l' hi h => ?_, S.il, fun id b i y h h' => ?_, fun i i' y z b h h' hb hb' => ?_, S.ext, S.below.trans (hB.mono hsz0), hG _ _ S.g (hB.mono hsz0), S.cx⟩, hhot⟩
  · rw [E, if_neg (by omega)]
    exact Rel_mono hle _ _ (S.tmp t ht)
  · obtain ⟨h1, h2, base, n, h3, us, ty, h4, h5, h6⟩ := S.loc id b h
    obtain ⟨g1, g2, g3⟩ := l3 id base n h3
    refine ⟨h1, by rw [E, if_neg (by omega)]; exact h2, base, n, h3, us, ty, (hB.block b (Array.getElem?_eq_some_iff.1 h4).1).trans h4, h5, fun j hj => ?_⟩
    rw [E, if_neg (by omega)]
    exact Rel_mono hle _ _ (h6 j hj)
  · by_cases e : i = k
    · subst e
      simp only [Ctx.withArr, if_true, Option.some.injEq] at h
      subst h
      refine ⟨hk, l, xs, by rw [E, if_pos rfl, hmu], hl, hbig, hsz, ⟨ho.1, ?_⟩, RowL_mono (fun b _ hb => ⟨fun h => hb (hhot b h), rfl⟩) l xs hr⟩
      rcases ho.2 with h | ⟨g, cap, cur, h1, h2, h3⟩
      · exact .inl h
      · exact .inr ⟨g, cap, cur, h1, by omega, h3⟩
    · simp only [Ctx.withArr, if_neg e] at h
      obtain ⟨h1, l', xs', h2, h3, h4, h5, h6, h7⟩ := S.arr i y h
      exact ⟨h1, l', xs', by rw [E, if_neg (by omega)]; exact h2, h3, h4, h5, ownsRow_below h6 fun b hb => hB.block b (ownsRow_lt h6 hb).2, RowL_mono hle.cold l' xs' h7⟩
  · rw [E] at h
    by_cases e1 : i = k
    · subst e1
      exact ⟨x, by simp [Ctx.withArr]⟩
    · rw [if_neg (by omega)] at h
      obtain ⟨y, hy⟩ := S.arn i q s e l' hi h
      exact ⟨y, by simp [Ctx.withArr, e1, hy]⟩
  · by_cases e : i = k
    · subst e
      simp only [Ctx.withArr, if_true, Option.some.injEq] at h'
      subst h'
      intro hb
      have := hge b hb
      have := S.hotlt (.inr (.inl ⟨id, h⟩))
      omega
    · simp only [Ctx.withArr, if_neg e] at h'
      exact S.ila id b i y h h'
  · have key : ∀ i y b, C.arr i = some y → y.v.ownBlock = some b → x.v.ownBlock ≠ some b := by
      intro i y b hy hb hb'
      obtain ⟨_, l', xs', _, _, _, _, ho', _⟩ := S.arr i y hy
      have := (ownsRow_lt ho' hb).2
      have := hge b hb'
      omega
    by_cases e : i = k <;> by_cases e' : i' = k
    · rw [e, e']
    · subst e
      simp only [Ctx.withArr, if_true, Option.some.injEq] at h
      simp only [Ctx.withArr, if_neg e'] at h'
      subst h
      exact absurd hb (key i' z b h' hb')
    · subst e'
      simp only [Ctx.withArr, if_true, Option.some.injEq] at h'
      simp only [Ctx.withArr, if_neg e] at h
      subst h'
      exact absurd hb' (key i y b h hb)
    · simp only [Ctx.withArr, if_neg e] at h
      simp only [Ctx.withArr, if_neg e'] at h'
      exact S.ia i i' y z b h h' hb hb'
theorem frV_some {r : V} {x : V × Nat × Nat × List V} (h : frV r = some x) : r = .tup [x.1, .arr true x.2.1 x.2.2.1 x.2.2.2] := by
  unfold frV at h
  split at h
  · simp only [Option.some.injEq] at h
    subst h
    rfl
  · cases h
theorem sim_callf {D : Nat → List V → Option V} (hD : ∀ f args r, D f args = some r → SpA P G f args r) {k f : Nat} {args : List Sr} {ARGS : List Operand} {d : Option Nat} {v : V} {ws : Wr} (S : St P L G w0 X0 C ρ a w) (hL : layOk L = true)
    (hG : ∀ w w', G w → Below w0.heap.size w w' → G w') (hd : ∀ t, d = some t → t < L.nt) (hs : dstB ρ d = true) (ha : chkSrs L ARGS args = true) (h : opV D L ρ d (.callf k f args) = some (v, ws)) :
    Calls P f (ARGS.map a.eval).toArray w fun e w' => ∃ u, e = .returned u ∧ ∃ C', St P L G w0 X0 C' (upd ρ (dstW v d ++ ws)) (a.put d u) w' := by
  obtain ⟨l1, l2, l3, l4⟩ := layOk_spec hL
  unfold opV at h
  dsimp only at h
  obtain ⟨vs, hvs, h⟩ := Option.bind_eq_some_iff.1 h
  obtain ⟨r, hr, h⟩ := Option.bind_eq_some_iff.1 h
  obtain ⟨x, hx, h⟩ := Option.bind_eq_some_iff.1 h
  split at h
  · rename_i hk
    obtain ⟨hk, hdead⟩ := hk
    simp only [Option.some.injEq, Prod.mk.injEq] at h
    obtain ⟨rfl, rfl⟩ := h
    have hA := evs_rel S ha
    have hno : ownsL (args.map (ev ρ)) = [] := by
      cases ho : ownsL (args.map (ev ρ)) with
      | nil => rfl
      | cons j js =>
        have := (shrL_owns _ _ hvs j (by rw [ho]; simp)).1
        simp at this
    have hA2 := shrL_Rel S (ks := []) _ _ _ hvs (fun k h => by rw [hno] at h; exact h) hA
    have hF : ∀ b, (C.frz []).hot b ↔ C.hot b := fun b => ⟨frz_hot, fun hb => by
      rcases hb with hb | hb | ⟨k, x, h1, h2, h3⟩
      · exact .inl hb
      · exact .inr (.inl hb)
      · exact .inr (.inr ⟨k, x, by simp [Ctx.frz, h1], h2, h3⟩)⟩
    obtain ⟨r', sz, ty, l, e0, hcall⟩ := (hD _ _ _ hr).2 (Nat.le_add_right _ _)
    rw [Nat.add_sub_cancel_left] at hcall
    rw [frV_some hx] at e0
    injection e0 with e0
    injection e0 with e1 e0
    injection e0 with e0 _
    injection e0 with _ e2 e3 e4
    subst e1; subst e2; subst e3; subst e4
    refine Calls.mono (hcall (C.frz []).hot w _ (fun b hb => S.hotlt (frz_hot hb)) S.g (nmL_Rel _ _ hA2)) ?_
    rintro e w' ⟨u, v, xs, he, hB, hbig, hsz, hown, hrow, hrel⟩
    refine ⟨u, he, ?_⟩
    obtain ⟨S', hh⟩ := S.addarr hL hG hB (x := ⟨v, x.2.2.2.length, x.2.1, x.2.2.1, true⟩) hk hdead rfl hown (RowL_mono (w := w') (w' := w') (fun b _ hb => ⟨fun h => hb ((hot1 _ _ b).2 (h.elim (fun h => .inl ((hF b).2 h)) fun h => .inr ⟨rfl, h⟩)), rfl⟩) _ _ hrow) rfl hbig hsz
    refine ⟨C.withArr k ⟨v, x.2.2.2.length, x.2.1, x.2.2.1, true⟩, ?_⟩
    have hdt : ∀ d', d = some d' → d' ≠ L.ab + k := fun d' e => by have := hd d' e; omega
    rw [upd_dst_arr ρ hdt]
    refine S'.put hL hd ?_ ?_
    · cases d with
      | none => rfl
      | some d' =>
        have : upd ρ [(L.ab + k, V.arr true x.2.1 x.2.2.1 x.2.2.2)] d' = ρ d' := upd_out _ _ _ (fun p hp => by simp at hp; subst hp; exact Ne.symm (hdt d' rfl))
        unfold dstB at hs ⊢
        dsimp only at hs ⊢
        rw [this]; exact hs
    · refine ren_Rel (by simp [Ctx.withArr]) (fun b hb => ?_) _ _ hrel
      rw [hot1]
      rcases hh b hb with h | h
      · exact .inl ((hF b).2 h)
      · exact .inr ⟨rfl, h⟩
  · cases h
theorem sim_call {D : Nat → List V → Option V} (hD : ∀ f args r, D f args = some r → SpA P G f args r) {ra fr : Bool} {f : Nat} {args : List Sr} {ARGS : List Operand} {d : Option Nat} {v : V} {ws : Wr} (S : St P L G w0 X0 C ρ a w) (hL : layOk L = true)
    (hG : ∀ w w', G w → Below w0.heap.size w w' → G w') (hd : ∀ t, d = some t → t < L.nt) (hs : dstB ρ d = true) (ha : chkSrs L ARGS args = true) (hf : f < FR) (h : opV D L ρ d (.call ra fr f args) = some (v, ws)) :
    Calls P f (ARGS.map a.eval).toArray w fun e w' => ∃ u, e = .returned u ∧ ∃ C', St P L G w0 X0 C' (upd ρ (dstW v d ++ ws)) (a.put d u) w' := by
  obtain ⟨l1, l2, l3, l4⟩ := layOk_spec hL
  unfold opV at h
  dsimp only at h
  obtain ⟨vs, hvs, h⟩ := Option.bind_eq_some_iff.1 h
  obtain ⟨r, hr, h⟩ := Option.bind_eq_some_iff.1 h
  have hA := evs_rel S ha
  have hA2 := shrL_Rel S (ks := ownsL (args.map (ev ρ))) _ _ _ hvs (fun k h => h) hA
  refine Calls.mono ((hD f (nmL vs) r hr).1 hf _ w _ (fun b hb => S.hotlt (frz_hot hb)) S.g (nmL_Rel _ _ hA2)) ?_
  rintro e w' ⟨u, he, hu, hB⟩
  refine ⟨u, he, ?_⟩
  have hG' : G w' := hG w w' S.g (hB.mono S.below.size)
  have S' := S.grow hB hG'
  split at h
  · simp only [Option.some.injEq, Prod.mk.injEq] at h
    obtain ⟨rfl, rfl⟩ := h
    refine ⟨C.frz (ownsL (args.map (ev ρ))), ?_⟩
    have S2 := (S'.put (v := .dead) (u := u) hL hd hs (by unfold Rel; trivial)).frz hL (ownsL (args.map (ev ρ)))
    have hks : ∀ p ∈ Den.frz L ρ (ownsL (args.map (ev ρ))), L.ab ≤ p.1 := by
      intro p hp
      unfold Den.frz at hp
      obtain ⟨k, _, rfl⟩ := List.mem_map.1 hp
      simp
    have hcm : ∀ v', upd ρ (dstW v' d ++ Den.frz L ρ (ownsL (args.map (ev ρ)))) = upd (upd ρ (Den.frz L ρ (ownsL (args.map (ev ρ))))) (dstW v' d) := by
      intro v'
      rw [upd_append]
      refine upd_comm ρ fun p hp q hq => ?_
      have := hks q hq
      cases d with
      | none => simp [dstW] at hp
      | some d' => simp [dstW] at hp; subst hp; have := hd d' rfl; simp only; omega
    rw [hcm]
    have S3 := S'.frz hL (ownsL (args.map (ev ρ)))
    refine S3.put hL hd ?_ (Rel_lift hu fun b hb => hb)
    cases d with
    | none => rfl
    | some d' =>
      have : upd ρ (Den.frz L ρ (ownsL (args.map (ev ρ)))) d' = ρ d' := upd_out _ _ _ fun p hp e => by have := hks p hp; have := hd d' rfl; omega
      unfold dstB at hs ⊢
      dsimp only at hs ⊢
      rw [this]; exact hs
  · split at h
    · rename_i hno
      simp only [Option.some.injEq, Prod.mk.injEq] at h
      obtain ⟨rfl, rfl⟩ := h
      refine ⟨C, ?_⟩
      rw [List.append_nil]
      refine S'.put hL hd hs ?_
      rw [Bool.or_eq_true] at hno
      rcases hno with hno | hno
      · exact Rel_noLst r u hno hu
      · have hnot : ∀ k x, C.arr k = some x → x.mu = true → k ∉ ownsL (args.map (ev ρ)) := by
          intro k x h1 h2 hm
          rw [Bool.or_eq_true] at hno
          rcases hno with hno | hno
          · have hnil : ownsL (args.map (ev ρ)) = [] := by simpa using hno
            rw [hnil] at hm
            cases hm
          · rw [Bool.and_eq_true] at hno
            have := List.all_eq_true.1 hno.2 k hm
            obtain ⟨_, l, xs, h3, _⟩ := S.arr k x h1
            rw [h3, h2] at this
            cases this
        refine Rel_lift hu fun b hb => ?_
        rcases hb with hb | hb | ⟨k, x, h1, h2, h3⟩
        · exact .inl hb
        · exact .inr (.inl hb)
        · exact .inr (.inr ⟨k, x, by simp only [Ctx.frz, h1, Option.map_some]; rw [if_neg (hnot k x h1 h2)], h2, h3⟩)
    · simp at h
end
end Go.Proofs.YtmbdbkcifmkpbaaGreatDoor.Den
end
section
set_option linter.unusedVariables false
set_option linter.unnecessarySimpa false
set_option linter.unusedSimpArgs false
namespace Go.Proofs.YtmbdbkcifmkpbaaGreatDoor.Den
open Go Go.RowKit

def varIs (L : Lay) (d : Option Nat) (base n : Nat) : Bool :=
  match d with
  | some d => L.var.any fun v => decide (v = (d, base, n))
  | none => false
def varFits (L : Lay) (id off r n : Nat) : Bool := L.var.any fun v => decide (v.1 = id) && (decide (r = v.2.1 + off) && decide (off + n ≤ v.2.2))
def partsB (L : Lay) (place : Nat → Option (Nat × Nat)) : List (Nat × Operand) → List (Nat × Nat × Sr) → Bool
  | [], [] => true
  | (i, x) :: ps, (off, n, y) :: qs => (match place i with | some p => decide (p = (off, n)) | none => false) && (chkSr L x y && partsB L place ps qs)
  | _, _ => false
theorem partsB_ok {L : Lay} {place : Nat → Option (Nat × Nat)} : ∀ {ps : List (Nat × Operand)} {qs : List (Nat × Nat × Sr)}, partsB L place ps qs = true → partsOk L place ps qs
  | [], [], h => trivial
  | (i, x) :: ps, (off, n, y) :: qs, h => by
    unfold partsB at h
    simp only [Bool.and_eq_true] at h
    obtain ⟨h1, h2, h3⟩ := h
    split at h1
    · rename_i p hp
      rw [decide_eq_true_iff] at h1
      exact ⟨by rw [hp, h1], h2, partsB_ok h3⟩
    · cases h1
  | [], _ :: _, h => by simp [partsB] at h
  | _ :: _, [], h => by simp [partsB] at h
/-- a struct, put together -/
def bldB (P : Program) (L : Lay) (t : TypeId) (ps : List (Nat × Operand)) (qs : List (Nat × Nat × Sr)) (z : List V) : Bool :=
  match P.info? t, P.underlying t with
  | some it, some (.struct fields) => match it.zero, fields.toList.mapM (fun f => (P.info? f.type).map fun i => (f.offset, i.size)) with
    | some u, some places => cellsAre u.cells.toList z && partsB L (places.toArray[·]?) ps qs
    | _, _ => false
  | some it, some (.array _ e) => match it.zero, P.info? e with
    | some u, some ie => cellsAre u.cells.toList z && partsB L (fun i => some (i * ie.size, ie.size)) ps qs
    | _, _ => false
  | _, _ => false
/-- a slice literal -/
def bslB (P : Program) (L : Lay) (t : TypeId) (len : Nat) (ps : List (Nat × Operand)) (n sz : Nat) (g : Bool) (qs : List (Nat × Nat × Sr)) (z : List V) : Bool :=
  match P.underlying t with
  | some (.slice e) => match P.info? e with
    | some ie => match ie.zero with
      | some u => decide (len = n) && (decide (ie.size = sz) && (decide (0 < sz) && (decide (0 < n) && (decide (n * sz ≤ 16777216) && ((g || sz == 1) &&
          (cellsAre ((Array.range (n * sz)).map (u.cells[· % u.cells.size]!)).toList ((List.replicate n z).flatten) && partsB L (fun i => some (i * sz, sz)) ps qs))))))
      | none => false
    | none => false
  | _ => false
def empB (P : Program) (t : TypeId) (sz e : Nat) : Bool :=
  match P.underlying t with
  | some (.slice e') => decide (e' = e) && (sizeIs P e sz && decide (0 < sz))
  | _ => false

def chkCall (P : Program) (L : Lay) (c : Call) : Op1 → Bool
  | .len ra x => match c.callee, c.args.toList, c.argTypes.toList with
    | .builtin .len, [X], [t] => chkSr L X x && isSliceT P t
    | _, _, _ => false
  | .mm mx x y => match c.callee, c.args.toList with
    | .builtin .min, [X, Y] => !mx && (chkSr L X x && chkSr L Y y)
    | .builtin .max, [X, Y] => mx && (chkSr L X x && chkSr L Y y)
    | _, _ => false
  | .app x y k sz bytes e => match c.callee, c.args.toList, c.argTypes.toList with
    | .builtin .append, [X, Y], [t, t'] => decide (t = t') && (chkSr L X x && (chkSr L Y y && appIs P t sz bytes e))
    | _, _, _ => false
  | .call ra fr f args => match c.callee with
    | .value (.func f') => decide (f' = f) && (callIs P f && (chkSrs L c.args.toList args && decide (f < FR)))
    | _ => false
  | .callf _ f args => match c.callee with
    | .value (.func f') => decide (f' = f) && (callIs P f && chkSrs L c.args.toList args)
    | _ => false
  | _ => false
def chkO (P : Program) (L : Lay) (d : Option Nat) : Op → Op1 → Bool
  | .move x, .mov y => chkSr L x y
  | .assign x, .mov y => chkSr L x y
  | .pick c x y, .pick c' x' y' => chkSr L c c' && (chkSr L x x' && chkSr L y y')
  | .binOp o t x y _, .bin tb o' x' y' => decide (o = o') && (chkSr L x x' && (chkSr L y y' && (!tb || isBoolT P t)))
  | .unOp o _ x, .un o' x' => decide (o = o') && chkSr L x x'
  | .convert s t x, .conv k x' => chkSr L x x' && ((P.underlying s).isSome && intIs P t k)
  | .alloc e, .mk base z => zeroIs P e z && varIs L d base z.length
  | .box e x, .box base n x' => chkSr L x x' && varIs L d base n
  | .fieldAddr s x f, .fad x' off => chkSr L x x' && fadIs P s f off
  | .load t x, .ld x' id off r n g => chkSr L x x' && (sizeIs P t n && (aggIs P t g && ((g || n == 1) && varFits L id off r n)))
  | .load t x, .lde _ x' n g => chkSr L x x' && (sizeIs P t n && (aggIs P t g && (g || n == 1)))
  | .store t x y, .st x' id off r n y' => d.isNone && (chkSr L x x' && (chkSr L y y' && (sizeIs P t n && varFits L id off r n)))
  | .store t x y, .ste x' g n y' => d.isNone && (chkSr L x x' && (chkSr L y y' && (sizeIs P t n && (g || n == 1))))
  | .indexAddr t x y, .eat _ x' y' n => chkSr L x x' && (chkSr L y y' && elemIs P t n)
  | .build t ps, .bld qs z => bldB P L t ps.toList qs z
  | .buildSlice t len ps, .bsl n sz g qs z => bslB P L t len ps.toList n sz g qs z
  | .buildSlice t len ps, .emp _ sz e => decide (len = 0) && (ps.toList.isEmpty && empB P t sz e)
  | .extract x j, .ext x' j' => chkSr L x x' && decide (j = j')
  | .index t x y, .idx x' y' n len => chkSr L x x' && (chkSr L y y' && idxIs P t n len)
  | .field s x f, .fld x' off n g => chkSr L x x' && fieldIs P s f off n g
  | .slice t x lo hi mx, .slc n x' lo' hi' => chkSr L x x' && (chkOpt L lo lo' && (chkOpt L hi hi' && (mx.isNone && elemIs P t n)))
  | .call c, o => chkCall P L c o
  | _, _ => false

section
variable {P : Program} {L : Lay} {G : World → Prop} {w0 : World} {X0 : Nat → Prop} {C : Ctx} {ρ : Nat → V} {a : Act} {w : World}
theorem varIs_mem {d : Option Nat} {base n : Nat} (h : varIs L d base n = true) : ∃ d', d = some d' ∧ (d', base, n) ∈ L.var := by
  unfold varIs at h
  split at h
  · rw [List.any_eq_true] at h
    obtain ⟨v, hv, h⟩ := h
    rw [decide_eq_true_iff] at h
    exact ⟨_, rfl, h ▸ hv⟩
  · cases h
theorem varFits_mem {id off r n : Nat} (h : varFits L id off r n = true) : ∃ base m, (id, base, m) ∈ L.var ∧ r = base + off ∧ off + n ≤ m := by
  unfold varFits at h
  rw [List.any_eq_true] at h
  obtain ⟨v, hv, h⟩ := h
  simp only [Bool.and_eq_true, decide_eq_true_iff] at h
  obtain ⟨h1, h2, h3⟩ := h
  exact ⟨v.2.1, v.2.2, by rw [← h1]; exact hv, h2, h3⟩
/-- a value, and nothing else -/
theorem Goes.val {o : Oper} {v : V} {ws : Wr} (S : St P L G w0 X0 C ρ a w) (hL : layOk L = true) (hd : ∀ t, o.dst = some t → t < L.nt) (hs : dstB ρ o.dst = true) (h : ws = [] ∧ ∃ u, (execOp a.eval o).run P w = .ok (.value u) w ∧ Rel C w v u) :
    Goes P o a w fun u w' => ∃ C', St P L G w0 X0 C' (upd ρ (dstW v o.dst ++ ws)) (a.put o.dst u) w' := by
  obtain ⟨rfl, u, hr, hu⟩ := h
  refine Goes.of hr ⟨C, ?_⟩
  rw [List.append_nil]
  exact S.put hL hd hs hu
theorem exec_of {o : Oper} {u : Value} {w' : World} {s : Sem Value} (h : execOp a.eval o = (do pure (.value (← s)))) (hr : s.run P w = .ok u w') : (execOp a.eval o).run P w = .ok (.value u) w' := by
  rw [h, Sem.run_bind, hr]; rfl

theorem execOp_bsl (σ : Operand → Value) (dst : Option Tmp) (t : TypeId) (len : Nat) (ps : Array (Nat × Operand)) (type : TypeId) (pos : String) (after : Array Edge) (guard : Option (Nat × Bool)) :
    execOp σ ⟨dst, .buildSlice t len ps, type, pos, after, guard⟩ = (do pure (.value (← Instr.buildSlice t len (ps.map fun p => (p.1, σ p.2))))) := rfl
theorem sim_op {D : Nat → List V → Option V} (hD : ∀ f args r, D f args = some r → SpA P G f args r) {o : Oper} {o1 : Op1} {v : V} {ws : Wr} (S : St P L G w0 X0 C ρ a w) (hL : layOk L = true)
    (hG : ∀ w w', G w → Below w0.heap.size w w' → G w') (hd : ∀ t, o.dst = some t → t < L.nt) (hs : dstB ρ o.dst = true) (hc : chkO P L o.dst o.op o1 = true) (h : opV D L ρ o.dst o1 = some (v, ws)) :
    Goes P o a w fun u w' => ∃ C', St P L G w0 X0 C' (upd ρ (dstW v o.dst ++ ws)) (a.put o.dst u) w' := by
  have hG' : ∀ w1 w2, G w1 → Below w1.heap.size w1 w2 → w0.heap.size ≤ w1.heap.size → G w2 := fun w1 w2 g hB hle => hG w1 w2 g (hB.mono hle)
  obtain ⟨dst, op, type, pos, after, guard⟩ := o
  dsimp only at *
  unfold chkO at hc
  split at hc
  · rename_i x y
    simp only [opV, Option.some.injEq, Prod.mk.injEq] at h
    obtain ⟨rfl, rfl⟩ := h
    exact Goes.val (o := ⟨dst, .move x, type, pos, after, guard⟩) S hL hd hs ⟨rfl, _, rfl, ev_rel S hc⟩
  · rename_i x y
    simp only [opV, Option.some.injEq, Prod.mk.injEq] at h
    obtain ⟨rfl, rfl⟩ := h
    exact Goes.val (o := ⟨dst, .assign x, type, pos, after, guard⟩) S hL hd hs ⟨rfl, _, rfl, ev_rel S hc⟩
  · rename_i c x y c' x' y'
    simp only [Bool.and_eq_true] at hc
    obtain ⟨h1, h2, h3⟩ := hc
    unfold opV at h
    dsimp only at h
    split at h
    · rename_i t e
      simp only [Option.some.injEq, Prod.mk.injEq] at h
      obtain ⟨rfl, rfl⟩ := h
      have hcc := ev_rel S h1
      rw [e] at hcc
      refine Goes.val (o := ⟨dst, .pick c x y, type, pos, after, guard⟩) S hL hd hs ⟨rfl, if t then a.eval x else a.eval y, ?_, ?_⟩
      · show (do pure (.value (if ← asBool (a.eval c) then a.eval x else a.eval y)) : Sem Next).run P w = _
        rw [Rel_bool hcc]
        rfl
      · cases t
        · exact ev_rel S h3
        · exact ev_rel S h2
    · simp at h
  · rename_i o t x y yt tb o' x' y'
    simp only [Bool.and_eq_true, decide_eq_true_iff] at hc
    obtain ⟨rfl, h2, h3, h4⟩ := hc
    unfold opV at h
    dsimp only at h
    obtain ⟨v', hv, h⟩ := Option.map_eq_some_iff.1 h
    simp only [Prod.mk.injEq] at h
    obtain ⟨rfl, rfl⟩ := h
    obtain ⟨r, hr, hrel⟩ := run_bin (P := P) (t := t) (ev_rel S h2) (ev_rel S h3) (fun e => by rw [e] at h4; simpa using h4) hv x y
    exact Goes.val (o := ⟨dst, .binOp o t x y yt, type, pos, after, guard⟩) S hL hd hs ⟨rfl, r, exec_of rfl hr, hrel⟩
  · rename_i o t x o' x'
    simp only [Bool.and_eq_true, decide_eq_true_iff] at hc
    obtain ⟨rfl, h2⟩ := hc
    unfold opV at h
    dsimp only at h
    obtain ⟨v', hv, h⟩ := Option.map_eq_some_iff.1 h
    simp only [Prod.mk.injEq] at h
    obtain ⟨rfl, rfl⟩ := h
    obtain ⟨r, hr, hrel⟩ := run_un (P := P) (ev_rel S h2) hv
    exact Goes.val (o := ⟨dst, .unOp o t x, type, pos, after, guard⟩) S hL hd hs ⟨rfl, r, exec_of rfl hr, hrel⟩
  · rename_i s t x k x'
    simp only [Bool.and_eq_true] at hc
    obtain ⟨h1, h2, h3⟩ := hc
    unfold opV at h
    dsimp only at h
    split at h
    · rename_i k' n e
      simp only [Option.some.injEq, Prod.mk.injEq] at h
      obtain ⟨rfl, rfl⟩ := h
      have hx := ev_rel S h1
      rw [e] at hx
      refine Goes.val (o := ⟨dst, .convert s t x, type, pos, after, guard⟩) S hL hd hs ⟨rfl, _, exec_of rfl ?_, Rel_mkint _ _⟩
      rw [Rel_int hx]
      exact run_conv h2 h3
    · simp at h
  · rename_i e base z
    simp only [Bool.and_eq_true] at hc
    obtain ⟨h1, h2⟩ := hc
    obtain ⟨d, rfl, hm⟩ := varIs_mem h2
    unfold opV at h
    dsimp only at h
    split at h
    · rename_i hdead
      simp only [Option.some.injEq, Prod.mk.injEq] at h
      obtain ⟨rfl, rfl⟩ := h
      unfold zeroIs at h1
      split at h1
      · rename_i u hu
        obtain ⟨i, hi, hz⟩ := Option.bind_eq_some_iff.1 hu
        have hr := (cellsAre_Rel (C := C) (w := w) h1).1
        refine Goes.of (u := .pointer (some ⟨w.heap.size, 0, none⟩)) (w' := w.alloc (.cells u.cells e)) ?_ ⟨_, S.newvar hL hG hdead hm rfl hr⟩
        simp [execOp, Instr.alloc, zeroValue, typeInfo, hi, hz, newVar, newRow]
      · cases h1
    · simp at h
  · rename_i e x base n x'
    simp only [Bool.and_eq_true] at hc
    obtain ⟨h1, h2⟩ := hc
    obtain ⟨d, rfl, hm⟩ := varIs_mem h2
    unfold opV at h
    dsimp only at h
    split at h
    · rename_i hk
      obtain ⟨k1, k2, k3⟩ := hk
      simp only [Option.some.injEq, Prod.mk.injEq] at h
      obtain ⟨rfl, rfl⟩ := h
      have hr := Rel_cells S k3 (ev_rel S h1)
      refine Goes.of (u := .pointer (some ⟨w.heap.size, 0, none⟩)) (w' := w.alloc (.cells (a.eval x).cells e)) ?_ ⟨_, S.newvar hL hG k1 hm k2 hr⟩
      simp [execOp, Instr.box, newVar, newRow]
    · simp at h
  · rename_i s x f x' off
    simp only [Bool.and_eq_true] at hc
    obtain ⟨h1, h2⟩ := hc
    have hx := ev_rel S h1
    unfold opV at h
    dsimp only at h
    split at h
    · rename_i id o e
      rw [e] at hx
      simp only [Option.some.injEq, Prod.mk.injEq] at h
      obtain ⟨rfl, rfl⟩ := h
      unfold Rel at hx
      obtain ⟨b, hb, e2⟩ := hx
      refine Goes.val (o := ⟨dst, .fieldAddr s x f, type, pos, after, guard⟩) S hL hd hs ⟨rfl, _, exec_of (s := Instr.fieldAt s (a.eval x) f) rfl (by rw [e2]; exact run_fieldAddr h2), ?_⟩
      unfold Rel
      exact ⟨b, hb, rfl⟩
    · rename_i l i o e
      rw [e] at hx
      simp only [Option.some.injEq, Prod.mk.injEq] at h
      obtain ⟨rfl, rfl⟩ := h
      unfold Rel at hx
      obtain ⟨b, o', sz, g1, g2, g3, g4, e2⟩ := hx
      refine Goes.val (o := ⟨dst, .fieldAddr s x f, type, pos, after, guard⟩) S hL hd hs ⟨rfl, _, exec_of (s := Instr.fieldAt s (a.eval x) f) rfl (by rw [e2]; exact run_fieldAddr h2), ?_⟩
      unfold Rel
      exact ⟨b, o', sz, g1, g2, g3, g4, by rw [Nat.add_assoc]⟩
    · simp at h
  · rename_i t x x' id off r n g
    simp only [Bool.and_eq_true] at hc
    obtain ⟨h1, h2, h3, h4, h5⟩ := hc
    obtain ⟨base, m, hm, rfl, hfit⟩ := varFits_mem h5
    have hx := ev_rel S h1
    unfold opV at h
    dsimp only at h
    split at h
    · rename_i id' off' e
      split at h
      · rename_i he
        obtain ⟨rfl, rfl⟩ := he
        simp only [Option.some.injEq, Prod.mk.injEq] at h
        obtain ⟨rfl, rfl⟩ := h
        rw [e] at hx
        unfold Rel at hx
        obtain ⟨b, hb, e2⟩ := hx
        obtain ⟨_, _, base', m', hm', us, ty, q1, q2, q3⟩ := S.loc _ b hb
        have hsame : base' = base ∧ m' = m := by
          obtain ⟨_, _, _, l4⟩ := layOk_spec hL
          rcases l4 _ _ _ _ _ _ hm hm' with e | e
          · exact e.2
          · exact absurd rfl e.1
        obtain ⟨rfl, rfl⟩ := hsame
        have hrl : RelL C w ((List.range n).map fun j => ρ (base' + off' + j)) ((us.toList.drop off').take n) := by
          refine RelL_of _ _ (by simp; omega) fun j hj => ?_
          simp only [List.length_map, List.length_range] at hj
          have := q3 (off' + j) (by omega)
          rw [← Nat.add_assoc] at this
          rw [List.getD_eq_getElem?_getD, List.getElem?_map, List.getElem?_range hj, List.getD_eq_getElem?_getD, List.getElem?_take, if_pos hj, List.getElem?_drop, Array.getElem?_toList]
          rw [Array.getD_eq_getD_getElem?, Array.getElem?_eq_getElem (by omega)] at this
          rw [Array.getElem?_eq_getElem (by omega)]
          exact this
        have hload := run_load_cells (P := P) (w := w) (b := b) (o := off') (us := (us.toList.drop off').take n) h2 h3 (by simp; omega) (fun e => by
          rw [e] at h4; simp at h4; omega) (fun j u hj => by
          rw [List.getElem?_take] at hj
          split at hj
          · rw [List.getElem?_drop, Array.getElem?_toList] at hj
            rw [cell_of_row w b _ us ty (0, 0) q1]
            exact hj
          · cases hj)
        refine Goes.val (o := ⟨dst, .load t x, type, pos, after, guard⟩) S hL hd hs ⟨rfl, _, exec_of (s := Instr.loadAt t (a.eval x)) rfl (by rw [e2]; exact hload), ?_⟩
        cases g with
        | true => simp only [if_true]; unfold Rel; exact ⟨_, rfl, hrl⟩
        | false =>
          simp only [Bool.false_or, beq_iff_eq] at h4
          subst h4
          simp only [Bool.false_eq_true, if_false]
          obtain ⟨u, u1, u2⟩ := RelL_at hrl (j := 0) (by simp)
          rw [List.getD_eq_getElem?_getD, u1]
          simpa using u2
      · simp at h
    · simp at h
  · rename_i t x ra x' n g
    simp only [Bool.and_eq_true] at hc
    obtain ⟨h1, h2, h3, h4⟩ := hc
    obtain ⟨rfl, u, hr, hu⟩ := sim_lde (P := P) S h1 h2 h3 h4 h
    exact Goes.val (o := ⟨dst, .load t x, type, pos, after, guard⟩) S hL hd hs ⟨rfl, u, exec_of (s := Instr.loadAt t (a.eval x)) rfl hr, hu⟩
  · rename_i t x y x' id off r n y'
    simp only [Bool.and_eq_true] at hc
    obtain ⟨h0, h1, h2, h3, h5⟩ := hc
    obtain ⟨base, m, hm, rfl, hfit⟩ := varFits_mem h5
    have hx := ev_rel S h1
    have hdn : dst = none := by cases dst <;> simp_all
    subst hdn
    unfold opV at h
    dsimp only at h
    split at h
    · rename_i id' off' e
      split at h
      · rename_i he
        obtain ⟨rfl, rfl, k2, k3⟩ := he
        simp only [Option.some.injEq, Prod.mk.injEq] at h
        obtain ⟨rfl, rfl⟩ := h
        rw [e] at hx
        unfold Rel at hx
        obtain ⟨b, hb, e2⟩ := hx
        have hr := Rel_cells S k3 (ev_rel S h2)
        have hlen := RelL_length _ _ hr
        have S' := S.store hL hG hb hm (off := off') (by omega) hr
        obtain ⟨_, _, base', m', hm', us, ty, q1, q2, q3⟩ := S.loc _ b hb
        have hsame : base' = base ∧ m' = m := by
          obtain ⟨_, _, _, l4⟩ := layOk_spec hL
          rcases l4 _ _ _ _ _ _ hm hm' with e | e
          · exact e.2
          · exact absurd rfl e.1
        obtain ⟨rfl, rfl⟩ := hsame
        refine Goes.skip (w' := w.setCells b off' (a.eval y).cells.toList) ?_ ⟨C, S'⟩
        have hst := run_storeCells_cells (P := P) b off' (a.eval y).cells.toList 0 w (fun j hj => by rw [cell_of_row w b _ us ty (0, 0) q1]; simp; omega) (fun j hj => by simp [World.frozen?, q1]) (Rel_ones S k3 hr)
        rw [Nat.add_zero] at hst
        have hsz : (a.eval y).cells.size = n := by rw [Array.length_toList] at hlen; omega
        show (do Instr.storeAt t (a.eval x) (a.eval y); pure Next.skip : Sem Next).run P w = _
        rw [e2]
        simp [Instr.storeAt, Instr.sureAddr, storeVar, sizeIs_run h3, hsz, hst]
      · simp at h
    · simp at h
  · rename_i t x y x' g n y'
    simp only [Bool.and_eq_true] at hc
    obtain ⟨h0, h1, h2, h3, h4⟩ := hc
    have hx := ev_rel S h1
    have hdn : dst = none := by cases dst <;> simp_all
    subst hdn
    unfold opV at h
    dsimp only at h
    split at h
    · rename_i k m i off e
      split at h
      · rename_i hk
        split at h
        · rename_i sz ty l eρ
          split at h
          · rename_i hcd
            obtain ⟨rfl, c2, c3, c4, c5, c6⟩ := hcd
            obtain ⟨cs, hcs, h⟩ := Option.map_eq_some_iff.1 h
            simp only [Prod.mk.injEq] at h
            obtain ⟨rfl, rfl⟩ := h
            rw [e] at hx
            unfold Rel at hx
            obtain ⟨z, hz, hmn, hu⟩ := hx
            obtain ⟨_, l', xs, q1, q2, q3, q4, q5, q6⟩ := S.arr k z hz
            rw [eρ] at q1
            injection q1 with q1 q1a q1b q1c
            subst q1c; subst q1a; subst q1b
            obtain ⟨_, gb, hgb, e2⟩ := hu (by omega)
            have hr := Rel_cells S c6 (ev_rel S h2)
            obtain ⟨rfl, hrel⟩ := shrL_cells hcs c6 hr
            have hlen := RelL_length _ _ hr
            rw [Array.length_toList] at hlen
            have hv : relP C.hot w (if g then .agg (cellsV (ev ρ y')) else (cellsV (ev ρ y')).headD .dead) (a.eval y).cells.toList := by
              cases g with
              | true => rw [if_pos rfl]; unfold relP; exact hrel
              | false =>
                simp only [Bool.false_or, beq_iff_eq] at h4
                rw [if_neg (by simp)]
                cases hcl : cellsV (ev ρ y') with
                | nil => rw [hcl] at c5; simp at c5; omega
                | cons v vs =>
                  rw [hcl] at hrel c5
                  have : vs = [] := List.eq_nil_of_length_eq_zero (by simp at c5; omega)
                  subst this
                  unfold relPL at hrel
                  obtain ⟨u, us', e3, _, h5, h6⟩ := hrel
                  unfold relPL at h6
                  subst h6
                  rw [e3]
                  exact h5
            obtain ⟨S', cells, k1, k2⟩ := S.setel hL hG hz q1.symm hgb (by rw [eρ]) c3 hv (by rw [Array.length_toList]; omega)
            rw [Array.length_toList] at k2
            refine Goes.skip (w' := w.setCells gb (i * z.sz) (a.eval y).cells.toList) ?_ ⟨C, S'⟩
            have hst := run_storeCells_cells (P := P) gb (i * z.sz) (a.eval y).cells.toList 0 w (fun j hj => by rw [cell_of_row w gb _ cells z.ty (0, 0) k1]; simp at hj ⊢; omega) (fun j hj => by simp [World.frozen?, k1]) (Rel_ones S c6 hr)
            rw [Nat.add_zero] at hst
            show (do Instr.storeAt t (a.eval x) (a.eval y); pure Next.skip : Sem Next).run P w = _
            rw [e2, Nat.add_zero]
            have hsz : (a.eval y).cells.size = n := by omega
            simp [Instr.storeAt, Instr.sureAddr, storeVar, sizeIs_run h3, hsz, hst]
          · cases h
        · cases h
      · cases h
    · cases h
  · rename_i t x y ra x' y' n
    simp only [Bool.and_eq_true] at hc
    obtain ⟨h1, h2, h3⟩ := hc
    obtain ⟨rfl, u, hr, hu⟩ := sim_eat (P := P) S h1 h2 h3 h
    exact Goes.val (o := ⟨dst, .indexAddr t x y, type, pos, after, guard⟩) S hL hd hs ⟨rfl, u, exec_of (s := Instr.indexAt t (a.eval x) (a.eval y)) rfl hr, hu⟩
  · rename_i t ps qs z
    unfold bldB at hc
    split at hc
    · rename_i it fields hi hu
      split at hc
      · rename_i u places hz hp
        simp only [Bool.and_eq_true] at hc
        obtain ⟨h1, h2⟩ := hc
        unfold opV at h
        dsimp only at h
        obtain ⟨cs, hcs, h⟩ := Option.map_eq_some_iff.1 h
        simp only [Prod.mk.injEq] at h
        obtain ⟨rfl, rfl⟩ := h
        obtain ⟨z1, z2, z3, z4⟩ := cellsAre_Rel (C := C) (w := w) h1
        obtain ⟨us', f1, f2, f3, f4⟩ := fill_rel S _ _ z u.cells cs (partsB_ok h2) z1 z2 hcs
        refine Goes.val (o := ⟨dst, .build t ps, type, pos, after, guard⟩) S hL hd hs ⟨rfl, .agg us', exec_of (s := Instr.build t (ps.map fun (i, x) => (i, a.eval x))) rfl ?_, ?_⟩
        · refine run_build w t _ _ ?_
          unfold Program.built
          rw [hi, hu]
          simp only [hz, hp]
          rw [Array.toList_map]
          exact f1
        · unfold Rel; exact ⟨us'.toList, by simp, f2⟩
      · cases hc
    · rename_i it len e hi hu
      split at hc
      · rename_i u ie hz hie
        simp only [Bool.and_eq_true] at hc
        obtain ⟨h1, h2⟩ := hc
        unfold opV at h
        dsimp only at h
        obtain ⟨cs, hcs, h⟩ := Option.map_eq_some_iff.1 h
        simp only [Prod.mk.injEq] at h
        obtain ⟨rfl, rfl⟩ := h
        obtain ⟨z1, z2, z3, z4⟩ := cellsAre_Rel (C := C) (w := w) h1
        obtain ⟨us', f1, f2, f3, f4⟩ := fill_rel S _ _ z u.cells cs (partsB_ok h2) z1 z2 hcs
        refine Goes.val (o := ⟨dst, .build t ps, type, pos, after, guard⟩) S hL hd hs ⟨rfl, .agg us', exec_of (s := Instr.build t (ps.map fun (i, x) => (i, a.eval x))) rfl ?_, ?_⟩
        · refine run_build w t _ _ ?_
          unfold Program.built
          rw [hi, hu]
          simp only [hz, hie]
          rw [Array.toList_map]
          exact f1
        · unfold Rel; exact ⟨us'.toList, by simp, f2⟩
      · cases hc
    · cases hc
  · rename_i t len ps n sz g qs z
    unfold bslB at hc
    split at hc
    · rename_i e hu
      split at hc
      · rename_i ie hie
        split at hc
        · rename_i u hz
          simp only [Bool.and_eq_true, decide_eq_true_iff] at hc
          obtain ⟨rfl, rfl, h3, h4, h5, h6, h7, h8⟩ := hc
          unfold opV at h
          dsimp only at h
          obtain ⟨cs, hcs, h⟩ := Option.bind_eq_some_iff.1 h
          obtain ⟨cs2, hcs2, h⟩ := Option.map_eq_some_iff.1 h
          simp only [Prod.mk.injEq] at h
          obtain ⟨rfl, rfl⟩ := h
          obtain ⟨z1, z2, z3, z4⟩ := cellsAre_Rel (C := C) (w := w) h7
          obtain ⟨us', f1, f2, f3, f4⟩ := fill_rel S _ _ _ ((Array.range (len * ie.size)).map (u.cells[· % u.cells.size]!)) cs (partsB_ok h8) z1 z2 hcs
          obtain ⟨rfl, hrel⟩ := shrL_cells hcs2 f3 f2
          have hlcs : cs2.length = len * ie.size := by
            rw [f4]
            have hlz := RelL_length _ _ z1
            rw [Array.length_toList, Array.size_map, Array.size_range] at hlz
            exact hlz.symm
          have hrow := chunk_row (g := g) h3 (fun e => by rw [e] at h6; simpa using h6) len cs2 us'.toList hrel hlcs
          have hbig : len ≤ big := Nat.le_trans (Nat.le_trans (Nat.le_mul_of_pos_right _ h3) h5) (by decide)
          have hrel2 := Rel_newlst (ty := e) S h3 (by rw [chunk_length]; exact hbig) hrow
          rw [chunk_length] at hrel2
          have hB : Below w.heap.size w (w.alloc (.cells us' e)) := (Below.refl _ _).alloc (Nat.le_refl _) _
          have S' := S.grow hB (hG _ _ S.g (hB.mono S.below.size))
          refine Goes.of (u := .slice (some ⟨w.heap.size, 0, none⟩) len len) (w' := w.alloc (.cells us' e)) (exec_of (execOp_bsl _ _ _ _ _ _ _ _ _) ?_) ⟨C, ?_⟩
          · refine run_buildSlice w t e len _ us' ie u hu hie hz (by omega) (by have := Nat.mul_pos h4 h3; omega) ?_
            rw [Array.toList_map]
            exact f1
          · rw [List.append_nil]
            exact S'.put hL hd hs hrel2
        · cases hc
      · cases hc
    · cases hc
  · rename_i t len ps k sz e
    simp only [Bool.and_eq_true, decide_eq_true_iff] at hc
    obtain ⟨rfl, h2, h3⟩ := hc
    have hps : ps.toList = [] := by simpa using h2
    unfold empB at h3
    split at h3
    · rename_i e' hu
      simp only [Bool.and_eq_true, decide_eq_true_iff] at h3
      obtain ⟨rfl, h4, h5⟩ := h3
      unfold opV at h
      dsimp only at h
      split at h
      · rename_i hk
        obtain ⟨k1, k2⟩ := hk
        simp only [Option.some.injEq, Prod.mk.injEq] at h
        obtain ⟨rfl, rfl⟩ := h
        have hnone := S.none_of_dead k2
        have hrow : rowOf C k = none := by unfold rowOf; rw [hnone]; rfl
        have hB : Below w.heap.size w (w.alloc (.cells #[] e')) := (Below.refl _ _).alloc (Nat.le_refl _) _
        obtain ⟨l1, l2, _, _⟩ := layOk_spec hL
        have hdt : ∀ d' : Nat, dst = some d' → d' ≠ L.ab + k := fun d' e => by have : d' < L.nt := hd d' e; omega
        obtain ⟨S', hle⟩ := S.setarr hL hG (k := k) (w' := w.alloc (.cells #[] e')) (l' := []) (xs' := []) (x' := ⟨.slice (some ⟨w.heap.size, 0, none⟩) 0 0, 0, sz, e', true⟩) k1 rfl
          (by rw [hrow]; exact World.grownBy_alloc w _ none) (fun x hx => by rw [hnone] at hx; cases hx) (fun b hb => Or.inr (Nat.le_of_eq (by simpa [Value.ownBlock] using hb)))
          (World.ownsRow_made w #[] 0 S.below.size (Nat.zero_le _) (by simp)) rfl rfl (Nat.zero_le _) h5
        refine Goes.of (u := .slice (some ⟨w.heap.size, 0, none⟩) 0 0) (w' := w.alloc (.cells #[] e')) (exec_of (execOp_bsl _ _ _ _ _ _ _ _ _) ?_) ⟨C.withArr k ⟨.slice (some ⟨w.heap.size, 0, none⟩) 0 0, 0, sz, e', true⟩, ?_⟩
        · have hp0 : ps = #[] := by cases ps; simpa using hps
          subst hp0
          simp [Instr.buildSlice, run_underlying hu, sizeIs_run h4, Instr.fill, newRow]
          congr 2
          exact Array.eq_empty_of_size_eq_zero (by rw [Array.size_map, Array.size_range])
        · rw [upd_dst_arr ρ hdt]
          refine S'.put hL hd ?_ ?_
          · cases dst with
            | none => rfl
            | some d' =>
              have : upd ρ [(L.ab + k, V.arr true sz e' [])] d' = ρ d' := upd_out _ _ _ (fun p hp => by simp at hp; subst hp; exact Ne.symm (hdt d' rfl))
              unfold dstB at hs ⊢
              dsimp only at hs ⊢
              rw [this]; exact hs
          · unfold Rel
            exact ⟨⟨.slice (some ⟨w.heap.size, 0, none⟩) 0 0, 0, sz, e', true⟩, by simp [Ctx.withArr], Nat.le_refl _, rfl, fun _ => rfl⟩
      · simp at h
    · cases h3
  · rename_i x j x' j'
    simp only [Bool.and_eq_true, decide_eq_true_iff] at hc
    obtain ⟨h1, rfl⟩ := hc
    have hx := ev_rel S h1
    unfold opV at h
    dsimp only at h
    split at h
    · rename_i l e
      rw [e] at hx
      split at h
      · rename_i v' hv
        simp only [Option.some.injEq, Prod.mk.injEq] at h
        obtain ⟨rfl, rfl⟩ := h
        unfold Rel at hx
        obtain ⟨us, e2, hr⟩ := hx
        have hj : j < l.length := (List.getElem?_eq_some_iff.1 hv).1
        obtain ⟨u, u1, u2⟩ := RelL_at hr hj
        rw [List.getD_eq_getElem?_getD, hv] at u2
        refine Goes.val (o := ⟨dst, .extract x j, type, pos, after, guard⟩) S hL hd hs ⟨rfl, u, exec_of (s := Instr.extract (a.eval x) j) rfl ?_, u2⟩
        rw [e2]
        simp [Instr.extract, u1]
      · simp at h
    · simp at h
  · rename_i t x y x' y' n len
    simp only [Bool.and_eq_true] at hc
    obtain ⟨h1, h2, h3⟩ := hc
    have hx := ev_rel S h1
    have hy := ev_rel S h2
    unfold opV at h
    dsimp only at h
    split at h
    · rename_i l e
      rw [e] at hx
      split at h
      · rename_i k j e2
        rw [e2] at hy
        split at h
        · rename_i hfit
          simp only [Option.some.injEq, Prod.mk.injEq] at h
          obtain ⟨rfl, rfl⟩ := h
          have hy := Rel_int hy
          unfold Rel at hx
          obtain ⟨us, e3, hr⟩ := hx
          obtain ⟨u, u1, u2⟩ := run_index (P := P) (k := k) h3 hr hfit.1 hfit.2.1
          exact Goes.val (o := ⟨dst, .index t x y, type, pos, after, guard⟩) S hL hd hs ⟨rfl, u, exec_of (s := Instr.index t (a.eval x) (a.eval y)) rfl (by rw [e3, hy]; exact u1), u2⟩
        · simp at h
      · simp at h
    · simp at h
  · rename_i s x f x' off n g
    simp only [Bool.and_eq_true] at hc
    obtain ⟨h1, h2⟩ := hc
    have hx := ev_rel S h1
    unfold opV at h
    dsimp only at h
    split at h
    · rename_i l e
      rw [e] at hx
      split at h
      · rename_i hfit
        simp only [Option.some.injEq, Prod.mk.injEq] at h
        obtain ⟨rfl, rfl⟩ := h
        unfold Rel at hx
        obtain ⟨us, e2, hr⟩ := hx
        obtain ⟨u, u1, u2⟩ := run_field (P := P) h2 hr hfit
        exact Goes.val (o := ⟨dst, .field s x f, type, pos, after, guard⟩) S hL hd hs ⟨rfl, u, exec_of (s := Instr.field s (a.eval x) f) rfl (by rw [e2]; exact u1), u2⟩
      · simp at h
    · simp at h
  · rename_i t x lo hi mx n x' lo' hi'
    simp only [Bool.and_eq_true] at hc
    obtain ⟨h1, h2, h3, h4, h5⟩ := hc
    have hmx : mx = none := by cases mx <;> simp_all
    subst hmx
    obtain ⟨rfl, u, hr, hu⟩ := sim_slc (P := P) S h1 h2 h3 h5 h
    exact Goes.val (o := ⟨dst, .slice t x lo hi none, type, pos, after, guard⟩) S hL hd hs ⟨rfl, u, exec_of (s := Instr.sliceAt t (a.eval x) (lo.map a.eval) (hi.map a.eval) (none.map a.eval)) rfl hr, hu⟩
  · rename_i c
    obtain ⟨callee, args, argTypes⟩ := c
    unfold chkCall at hc
    split at hc
    · rename_i ra x
      split at hc
      · rename_i X t e1 e2 e3
        subst e1
        simp only [Bool.and_eq_true] at hc
        obtain ⟨h1, h2⟩ := hc
        obtain ⟨rfl, u, hr, hu⟩ := sim_len (P := P) (ty := type) S h1 h2 h
        refine Goes.val (o := ⟨dst, .call ⟨.builtin .len, args, argTypes⟩, type, pos, after, guard⟩) S hL hd hs ⟨rfl, u, ?_, hu⟩
        have ha : args = #[X] := by cases args; simpa using e2
        have ht : argTypes = #[t] := by cases argTypes; simpa using e3
        subst ha; subst ht
        simp [execOp, resolve, invoke, builtin, hr]
      · cases hc
    · rename_i mx x y
      split at hc
      · rename_i X Y e1 e2
        subst e1
        simp only [Bool.and_eq_true, Bool.not_eq_true'] at hc
        obtain ⟨rfl, h1, h2⟩ := hc
        have ha : args = #[X, Y] := by cases args; simpa using e2
        subst ha
        unfold opV at h
        dsimp only at h
        split at h
        · rename_i k p k' q e3 e4
          simp only [Option.some.injEq, Prod.mk.injEq] at h
          obtain ⟨rfl, rfl⟩ := h
          have hx := ev_rel S h1
          have hy := ev_rel S h2
          rw [e3] at hx
          rw [e4] at hy
          refine Goes.val (o := ⟨dst, .call ⟨.builtin .min, #[X, Y], argTypes⟩, type, pos, after, guard⟩) S hL hd hs ⟨rfl, _, ?_, Rel_mkint _ _⟩
          simp [execOp, resolve, invoke, builtin, Builtin.min_, Builtin.min2, Rel_int hx, Rel_int hy]
        · simp at h
      · rename_i X Y e1 e2
        subst e1
        simp only [Bool.and_eq_true] at hc
        obtain ⟨rfl, h1, h2⟩ := hc
        have ha : args = #[X, Y] := by cases args; simpa using e2
        subst ha
        unfold opV at h
        dsimp only at h
        split at h
        · rename_i k p k' q e3 e4
          simp only [Option.some.injEq, Prod.mk.injEq] at h
          obtain ⟨rfl, rfl⟩ := h
          have hx := ev_rel S h1
          have hy := ev_rel S h2
          rw [e3] at hx
          rw [e4] at hy
          refine Goes.val (o := ⟨dst, .call ⟨.builtin .max, #[X, Y], argTypes⟩, type, pos, after, guard⟩) S hL hd hs ⟨rfl, _, ?_, Rel_mkint _ _⟩
          simp [execOp, resolve, invoke, builtin, Builtin.max_, Builtin.max2, Rel_int hx, Rel_int hy]
        · simp at h
      · cases hc
    · rename_i x y k sz bytes e
      split at hc
      · rename_i X Y t t' e1 e2 e3
        subst e1
        simp only [Bool.and_eq_true, decide_eq_true_iff] at hc
        obtain ⟨rfl, h1, h2, h3⟩ := hc
        have ha : args = #[X, Y] := by cases args; simpa using e2
        have ht : argTypes = #[t, t] := by cases argTypes; simpa using e3
        subst ha; subst ht
        obtain ⟨u, w', C', hr, S'⟩ := sim_app (P := P) (ty := type) S hL hG hd hs h1 h2 h3 h
        refine Goes.of (u := u) (w' := w') ?_ ⟨C', S'⟩
        simp [execOp, resolve, invoke, builtin, hr]
      · cases hc
    · rename_i ra fr f args'
      split at hc
      · rename_i f' e1
        subst e1
        simp only [Bool.and_eq_true, decide_eq_true_iff] at hc
        obtain ⟨rfl, h1, h2, h2f⟩ := hc
        have hcall := sim_call hD S hL hG hd hs h2 h2f h
        unfold callIs at h1
        split at h1
        · rename_i fn hfn
          simp only [Bool.and_eq_true] at h1
          obtain ⟨b1, b2⟩ := h1
          unfold Goes
          have hrun : (execOp a.eval ⟨dst, .call ⟨.value (.func f'), args, argTypes⟩, type, pos, after, guard⟩).run P w = .ok (.enter f' (args.toList.map a.eval).toArray) w := by
            have hn : ¬ fn.name = "runtime.NumGoroutine" := by
              intro e
              rw [e] at b2
              simp at b2
            obtain ⟨bd, hbd⟩ := Option.isSome_iff_exists.1 b1
            have hargs : (args.toList.map a.eval).toArray = args.map a.eval := by rw [← Array.toList_map, Array.toArray_toList]
            rw [hargs]
            simp [execOp, resolve, invoke, Deferred.ofValue, Act.eval, callFunc, hfn, hbd, hn]
          rw [hrun]
          exact hcall
        · cases h1
      · cases hc
    · rename_i k f args'
      split at hc
      · rename_i f' e1
        subst e1
        simp only [Bool.and_eq_true, decide_eq_true_iff] at hc
        obtain ⟨rfl, h1, h2⟩ := hc
        have hcall := sim_callf hD S hL hG hd hs h2 h
        unfold callIs at h1
        split at h1
        · rename_i fn hfn
          simp only [Bool.and_eq_true] at h1
          obtain ⟨b1, b2⟩ := h1
          unfold Goes
          have hrun : (execOp a.eval ⟨dst, .call ⟨.value (.func f'), args, argTypes⟩, type, pos, after, guard⟩).run P w = .ok (.enter f' (args.toList.map a.eval).toArray) w := by
            have hn : ¬ fn.name = "runtime.NumGoroutine" := by
              intro e
              rw [e] at b2
              simp at b2
            obtain ⟨bd, hbd⟩ := Option.isSome_iff_exists.1 b1
            have hargs : (args.toList.map a.eval).toArray = args.map a.eval := by rw [← Array.toList_map, Array.toArray_toList]
            rw [hargs]
            simp [execOp, resolve, invoke, Deferred.ofValue, Act.eval, callFunc, hfn, hbd, hn]
          rw [hrun]
          exact hcall
        · cases h1
      · cases hc
    · cases hc
  · cases hc
end
end Go.Proofs.YtmbdbkcifmkpbaaGreatDoor.Den
end
section
set_option linter.unusedVariables false
set_option linter.unnecessarySimpa false
set_option linter.unusedSimpArgs false
namespace Go.Proofs.YtmbdbkcifmkpbaaGreatDoor.Den
open Go Go.RowKit

def chkG (L : Lay) (ops : Array Oper) : Option (Nat × Bool) → Option (Nat × Bool) → Bool
  | none, none => true
  | some (j, b), some (t, b') => b == b' && (decide ((ops[j]?).bind (·.dst) = some t) && decide (t < L.nt))
  | _, _ => false
def chkI (P : Program) (L : Lay) (ops : Array Oper) (o : Oper) (i : Ins) : Bool :=
  decide (o.dst = i.d) && ((match o.dst with | some t => decide (t < L.nt) | none => true) && (chkG L ops o.guard i.g && chkO P L o.dst o.op i.o))
def chkR (P : Program) (L : Lay) (ops : Array Oper) (draw : Bool) (is : List Ins) : Bool :=
  decide (ops.size = is.length) && ((List.range ops.size).all (fun j => match ops[j]? with | some o => chkI P L ops o (is.toArray.getD j default) | none => false) && (!draw || (Region.noSelect ops && lexI L ops is.toArray ops.size 0 (Array.replicate ops.size false))))

section
variable {P : Program} {L : Lay} {G : World → Prop} {w0 : World} {X0 : Nat → Prop} {C : Ctx} {ρ : Nat → V} {a : Act} {w : World}

theorem sim_ins {D : Nat → List V → Option V} (hD : ∀ f args r, D f args = some r → SpA P G f args r) {ops : Array Oper} {idx : Nat} {o : Oper} {i : Ins} {ws : Wr} {Q : Exit → Act → World → Prop} {K : Act → World → Prop} (S : St P L G w0 X0 C ρ a w) (hL : layOk L = true)
    (hG : ∀ w w', G w → Below w0.heap.size w w' → G w') (ho : ops[idx]? = some o) (hc : chkI P L ops o i = true) (h : exec D L ρ i = some ws) (hK : ∀ C' a' w', St P L G w0 X0 C' (upd ρ ws) a' w' → K a' w') :
    wpOp P ops Q idx K a w := by
  unfold chkI at hc
  simp only [Bool.and_eq_true, decide_eq_true_iff] at hc
  obtain ⟨h1, h2, h3, h4⟩ := hc
  have hd : ∀ t, o.dst = some t → t < L.nt := fun t e => by rw [e] at h2; simpa using h2
  unfold exec at h
  split at h
  · rename_i hs
    rw [← h1] at hs
    have run : ∀ v ws', opV D L ρ o.dst i.o = some (v, ws') → ws = dstW v o.dst ++ ws' → Region.wanted o (yielded ops a.tmps) = true → wpOp P ops Q idx K a w := by
      intro v ws' hv hws hw
      unfold wpOp
      rw [ho]
      simp only [hw, if_true]
      refine .inl (Goes.wp (sim_op hD S hL hG hd hs h4 hv) ?_)
      rintro u w' ⟨C', S'⟩
      rw [← hws] at S'
      exact hK _ _ _ S'
    rw [← h1] at h
    split at h
    · rename_i hg
      obtain ⟨x, hx, hws⟩ := Option.map_eq_some_iff.1 h
      have hgo : o.guard = none := by
        rw [hg] at h3
        cases hgg : o.guard with
        | none => rfl
        | some p => rw [hgg] at h3; obtain ⟨_, _⟩ := p; simp [chkG] at h3
      exact run x.1 x.2 hx hws.symm (by unfold Region.wanted; rw [hgo])
    · rename_i t want hg
      cases hgg : o.guard with
      | none => rw [hg, hgg] at h3; simp [chkG] at h3
      | some p =>
        obtain ⟨j, b⟩ := p
        rw [hg, hgg] at h3
        simp only [chkG, Bool.and_eq_true, beq_iff_eq, decide_eq_true_iff] at h3
        obtain ⟨rfl, e2, e3⟩ := h3
        split at h
        · rename_i q hq
          have ht := S.tmp t e3
          rw [hq] at ht
          have htv := Rel_bool ht
          have hy : yielded ops a.tmps j = some q := by
            unfold yielded
            rw [e2]
            have hlt : t < a.tmps.size := by rw [S.tsz]; exact e3
            simp only [Option.bind_some]
            rw [Array.getD_eq_getD_getElem?, Array.getElem?_eq_getElem hlt, Option.getD_some] at htv
            rw [Array.getElem?_eq_getElem hlt, htv]
          split at h
          · rename_i hqb
            obtain ⟨x, hx, hws⟩ := Option.map_eq_some_iff.1 h
            exact run x.1 x.2 hx hws.symm (by unfold Region.wanted; rw [hgg]; simp only; rw [hy, hqb]; simp)
          · rename_i hqb
            simp only [Option.some.injEq] at h
            have hw : Region.wanted o (yielded ops a.tmps) = false := by
              unfold Region.wanted; rw [hgg]; simp only; rw [hy]; simp [hqb]
            unfold wpOp
            rw [ho]
            simp only [hw, Bool.false_eq_true, if_false]
            refine hK C _ _ ?_
            rw [← h]
            exact S.put hL hd hs (by unfold Rel; exact ⟨[], rfl, by unfold RelL; rfl⟩)
        · rename_i hq
          have ht := S.tmp t e3
          rw [hq] at ht
          simp only [Option.some.injEq] at h
          have hy : yielded ops a.tmps j = none := by
            unfold yielded
            rw [e2]
            have hlt : t < a.tmps.size := by rw [S.tsz]; exact e3
            simp only [Option.bind_some]
            rw [Array.getD_eq_getD_getElem?, Array.getElem?_eq_getElem hlt, Option.getD_some] at ht
            unfold Rel at ht
            obtain ⟨us, hu, _⟩ := ht
            rw [Array.getElem?_eq_getElem hlt, hu]
          have hw : Region.wanted o (yielded ops a.tmps) = false := by
            unfold Region.wanted; rw [hgg]; simp only; rw [hy]; rfl
          unfold wpOp
          rw [ho]
          simp only [hw, Bool.false_eq_true, if_false]
          refine hK C _ _ ?_
          rw [← h]
          exact S.put hL hd hs (by unfold Rel; exact ⟨[], rfl, by unfold RelL; rfl⟩)
        · simp at h
  · simp at h
theorem chkR_spec {ops : Array Oper} {draw : Bool} {is : List Ins} (h : chkR P L ops draw is = true) : ops.size = is.length ∧ (∀ j o, ops[j]? = some o → chkI P L ops o (is.toArray.getD j default) = true) ∧
    (draw = true → Region.noSelect ops = true ∧ lexI L ops is.toArray ops.size 0 (Array.replicate ops.size false) = true) := by
  unfold chkR at h
  simp only [Bool.and_eq_true, decide_eq_true_iff, List.all_eq_true] at h
  obtain ⟨h1, h2, h3⟩ := h
  refine ⟨h1, fun j o ho => ?_, fun hd => ?_⟩
  · have hlt : j < ops.size := (Array.getElem?_eq_some_iff.1 ho).1
    have := h2 j (List.mem_range.2 hlt)
    rw [ho] at this
    exact this
  · subst hd
    simpa using h3
theorem sim_list {D : Nat → List V → Option V} (hD : ∀ f args r, D f args = some r → SpA P G f args r) (hL : layOk L = true) (hG : ∀ w w', G w → Below w0.heap.size w w' → G w') {ops : Array Oper} {is : List Ins} {Q : Exit → Act → World → Prop}
    (hc : ∀ j o, ops[j]? = some o → chkI P L ops o (is.toArray.getD j default) = true) (hsz : ops.size = is.length) {ρ' : Nat → V} (hQ : ∀ C' a' w', St P L G w0 X0 C' ρ' a' w' → Q .normal a' w') :
    ∀ (l : List Ins) (k : Nat), (∀ j, l[j]? = is[k + j]?) → ∀ (C : Ctx) (ρ : Nat → V) (a : Act) (w : World), St P L G w0 X0 C ρ a w → runI D L l ρ = some ρ' → wpOps P ops Q (List.range' k l.length) a w
  | [], k, hl, C, ρ, a, w, S, hr => by
    simp only [runI, Option.some.injEq] at hr
    subst hr
    exact hQ _ _ _ S
  | i :: l, k, hl, C, ρ, a, w, S, hr => by
    unfold runI at hr
    obtain ⟨ws, hx, hr⟩ := Option.bind_eq_some_iff.1 hr
    have h0 : is[k]? = some i := by simpa using (hl 0).symm
    have hk : k < is.length := (List.getElem?_eq_some_iff.1 h0).1
    have ho : ops[k]? = some ops[k] := Array.getElem?_eq_getElem (by omega)
    have hi : is.toArray.getD k default = i := by simp [Array.getD_eq_getD_getElem?, h0]
    rw [List.length_cons, List.range'_succ, wpOps_cons]
    refine sim_ins hD S hL hG ho (by rw [← hi]; exact hc k _ ho) hx fun C' a' w' S' => ?_
    exact sim_list hD hL hG hc hsz hQ l (k + 1) (fun j => by have := hl (j + 1); simpa [Nat.add_assoc, Nat.add_comm 1 j] using this) C' _ a' w' S' hr
theorem sim_any {D : Nat → List V → Option V} (hD : ∀ f args r, D f args = some r → SpA P G f args r) (hL : layOk L = true) (hG : ∀ w w', G w → Below w0.heap.size w w' → G w') {ops : Array Oper} {is : Array Ins} {Q : Exit → Act → World → Prop}
    (hc : ∀ j o, ops[j]? = some o → chkI P L ops o (is.getD j default) = true) {Post : (Nat → V) → Prop} (hQ : ∀ C' ρ' a' w', Post ρ' → St P L G w0 X0 C' ρ' a' w' → Q .normal a' w') :
    ∀ (fuel : Nat) (listed : Array Bool) (C : Ctx) (ρ : Nat → V) (a : Act) (w : World), St P L G w0 X0 C ρ a w → absAny D L ops is Post fuel listed ρ → wpAny P .any ops Q fuel listed a w
  | 0, listed, C, ρ, a, w, S, h => ⟨h.1, hQ _ _ _ _ h.2 S⟩
  | fuel + 1, listed, C, ρ, a, w, S, h => by
    refine ⟨fun h0 => hQ _ _ _ _ (h.1 h0) S, fun i hi => ?_⟩
    obtain ⟨ws, hx, h'⟩ := h.2 i hi
    obtain ⟨_, o, ho, _⟩ := mem_ready.1 hi
    exact sim_ins hD S hL hG ho (hc i o ho) hx fun C' a' w' S' => sim_any hD hL hG hc hQ fuel _ C' _ a' w' S' h'
theorem sim_reg {D : Nat → List V → Option V} (hD : ∀ f args r, D f args = some r → SpA P G f args r) (hm : P.follows .mixedOrders = true) (S : St P L G w0 X0 C ρ a w) (hL : layOk L = true) (hG : ∀ w w', G w → Below w0.heap.size w w' → G w')
    {id : Nat} {ops : Array Oper} {draw : Bool} {is : List Ins} {Q : Exit → Act → World → Prop} (hc : chkR P L ops draw is = true) {ρ' : Nat → V} (hr : runI D L is ρ = some ρ') (hQ : ∀ C' a' w', St P L G w0 X0 C' ρ' a' w' → Q .normal a' w') :
    (Code.region id ops draw).wp P Q a w := by
  obtain ⟨h1, h2, h3⟩ := chkR_spec hc
  cases draw with
  | false =>
    refine wp_region ?_
    rw [h1, List.range_eq_range']
    exact sim_list hD hL hG h2 h1 hQ is 0 (fun j => by rw [Nat.zero_add]) C ρ a w S hr
  | true =>
    obtain ⟨h4, h5⟩ := h3 rfl
    refine wp_region_any hm ?_
    have hB : Below w.heap.size w { w with drawn := w.drawn + 1 } := ⟨rfl, rfl, rfl, Nat.le_refl _, fun _ _ => rfl⟩
    have S' := S.grow hB (hG _ _ S.g (hB.mono S.below.size))
    refine sim_any (Post := fun r => r = ρ') hD hL hG h2 (fun C' ρ2 a' w' e S2 => hQ _ _ _ (e ▸ S2)) ops.size _ C ρ a _ S' ?_
    rw [h1]
    refine absAny_lex is 0 _ ρ ρ' (fun j => by rw [Nat.zero_add]; simp) ?_ hr rfl
    rw [← h1]
    exact h5

/-! ### forgetting -/
mutual
def kil (vs as : List Nat) : V → V
  | .ptr id off => if vs.contains id then .dead else .ptr id off
  | .own k n => if as.contains k then .dead else .own k n
  | .epo k n i off => if as.contains k then .dead else .epo k n i off
  | .agg l => .agg (kilL vs as l)
  | .tup l => .tup (kilL vs as l)
  | .bool b => .bool b
  | .int k n => .int k n
  | .fn f => .fn f
  | .str s => .str s
  | .nil0 => .nil0
  | .lst l => .lst l
  | .dead => .dead
  | .ept l i off => .ept l i off
  | .arr q s e l => .arr q s e l
def kilL (vs as : List Nat) : List V → List V
  | [] => []
  | v :: l => kil vs as v :: kilL vs as l
end
structure Kil where
  ts : List Nat
  vs : List Nat
  as : List Nat
  fz : List Nat
  deriving Inhabited
def kil1 (L : Lay) (k : Kil) (ρ : Nat → V) (t : Nat) : V := if t < L.ab ∧ t ∈ k.ts then .dead else if L.ab ≤ t ∧ t - L.ab ∈ k.as then .dead else kil k.vs k.as (ρ t)
/-- a list of registers -/
def args0 (args : List V) : Nat → V := fun t => args.getD t .dead
def kilR0 (L : Lay) (k : Kil) (ρ : Nat → V) : Nat → V := args0 ((List.range L.nr).map (kil1 L k ρ))
theorem kilR0_lt (L : Lay) (k : Kil) (ρ : Nat → V) {t : Nat} (h : t < L.nr) : kilR0 L k ρ t = kil1 L k ρ t := by
  unfold kilR0 args0
  rw [List.getD_eq_getElem?_getD, List.getElem?_map, List.getElem?_range h]
  rfl
def Ctx.kil (C : Ctx) (k : Kil) : Ctx := { C with loc := fun id => if id ∈ k.vs then none else C.loc id, arr := fun i => if i ∈ k.as then none else C.arr i }
theorem kil_hot {k : Kil} {b : Nat} (h : (C.kil k).hot b) : C.hot b := by
  rcases h with h | ⟨id, h⟩ | ⟨i, x, h, h1, h2⟩
  · exact .inl h
  · unfold Ctx.kil at h
    simp only at h
    split at h
    · cases h
    · exact .inr (.inl ⟨id, h⟩)
  · unfold Ctx.kil at h
    simp only at h
    split at h
    · cases h
    · exact .inr (.inr ⟨i, x, h, h1, h2⟩)
mutual
theorem kil_Rel (k : Kil) : ∀ (v : V) (u : Value), Rel C w v u → Rel (C.kil k) w (kil k.vs k.as v) u
  | .ptr id off, u, h => by
    unfold kil
    split
    · unfold Rel; trivial
    · rename_i hn
      unfold Rel at h ⊢
      obtain ⟨b, hb, e⟩ := h
      exact ⟨b, by unfold Ctx.kil; simp only; rw [if_neg (by simpa using hn)]; exact hb, e⟩
  | .own i n, u, h => by
    unfold kil
    split
    · unfold Rel; trivial
    · rename_i hn
      unfold Rel at h ⊢
      obtain ⟨x, hx, h⟩ := h
      exact ⟨x, by unfold Ctx.kil; simp only; rw [if_neg (by simpa using hn)]; exact hx, h⟩
  | .epo i n j off, u, h => by
    unfold kil
    split
    · unfold Rel; trivial
    · rename_i hn
      unfold Rel at h ⊢
      obtain ⟨x, hx, h⟩ := h
      exact ⟨x, by unfold Ctx.kil; simp only; rw [if_neg (by simpa using hn)]; exact hx, h⟩
  | .agg l, u, h => by
    unfold kil
    unfold Rel at h ⊢
    obtain ⟨us, e, h⟩ := h
    exact ⟨us, e, kilL_Rel k l us h⟩
  | .tup l, u, h => by
    unfold kil
    unfold Rel at h ⊢
    obtain ⟨us, e, h⟩ := h
    exact ⟨us, e, kilL_Rel k l us h⟩
  | .bool b, u, h => by unfold kil; unfold Rel at h ⊢; exact h
  | .int i n, u, h => by unfold kil; unfold Rel at h ⊢; exact h
  | .fn f, u, h => by unfold kil; unfold Rel at h ⊢; exact h
  | .str s, u, h => by unfold kil; unfold Rel at h ⊢; exact h
  | .nil0, u, h => by unfold kil; unfold Rel at h ⊢; exact h
  | .lst l, u, h => by
    unfold kil
    unfold Rel at h ⊢
    exact relP_mono (fun b _ hb => ⟨fun h => hb (kil_hot h), rfl⟩) _ _ h
  | .dead, u, h => by unfold kil Rel; trivial
  | .ept l i off, u, h => by
    unfold kil
    unfold Rel at h ⊢
    obtain ⟨b, o, sz, h0, h1, h2, h3⟩ := h
    exact ⟨b, o, sz, h0, fun h => h1 (kil_hot h), relRow_mono (w := w) (w' := w) (hot := C.hot) (fun b _ hb => ⟨fun h => hb (kil_hot h), rfl⟩) b o sz h1 l 0 h2, h3⟩
  | .arr _ _ _ _, u, h => by unfold Rel at h; exact h.elim
theorem kilL_Rel (k : Kil) : ∀ (l : List V) (us : List Value), RelL C w l us → RelL (C.kil k) w (kilL k.vs k.as l) us
  | [], us, h => by unfold kilL; unfold RelL at h ⊢; exact h
  | v :: l, us, h => by
    unfold kilL
    unfold RelL at h ⊢
    obtain ⟨u, us', e, h1, h2⟩ := h
    exact ⟨u, us', e, kil_Rel k v u h1, kilL_Rel k l us' h2⟩
end
/-- may these be forgotten? (a variable's address must not be forgotten before the variable) -/
def kilOk (L : Lay) (k : Kil) : Bool := k.ts.all fun t => !(L.var.any fun v => decide (v.1 = t)) || k.vs.contains t
theorem St.forget0 (S : St P L G w0 X0 C ρ a w) (hL : layOk L = true) {k : Kil} (hk : kilOk L k = true) : St P L G w0 X0 (C.kil k) (kilR0 L k ρ) a w := by
  obtain ⟨l1, l2, l3, l4⟩ := layOk_spec hL
  have E0 : ∀ t, t < L.ab → kilR0 L k ρ t = if t < L.ab ∧ t ∈ k.ts then .dead else kil k.vs k.as (ρ t) := fun t h => by rw [kilR0_lt _ _ _ (by omega)]; unfold kil1; rw [if_neg (c := L.ab ≤ t ∧ _) (by omega)]
  have hlocs : ∀ id b, (C.kil k).loc id = some b → C.loc id = some b ∧ id ∉ k.vs := by
    intro id b h
    unfold Ctx.kil at h
    simp only at h
    split at h
    · cases h
    · rename_i hn; exact ⟨h, hn⟩
  have harrs : ∀ i x, (C.kil k).arr i = some x → C.arr i = some x ∧ i ∉ k.as := by
    intro i x h
    unfold Ctx.kil at h
    simp only at h
    split at h
    · cases h
    · rename_i hn; exact ⟨h, hn⟩
  refine ⟨S.tsz, S.defs, fun t ht => ?_, fun id b h => ?_, fun i x h => ?_, fun i q s e l hi h => ?_, fun id id' b h h' => S.il id id' b (hlocs _ _ h).1 (hlocs _ _ h').1,
    fun id b i x h h' => S.ila id b i x (hlocs _ _ h).1 (harrs _ _ h').1, fun i i' x x' b h h' => S.ia i i' x x' b (harrs _ _ h).1 (harrs _ _ h').1, S.ext, S.below, S.g, S.cx⟩
  · rw [E0 t (by omega)]
    split
    · unfold Rel; trivial
    · exact kil_Rel k _ _ (S.tmp t ht)
  · obtain ⟨h0, hn⟩ := hlocs id b h
    obtain ⟨h1, h2, base, n, h3, us, ty, h4, h5, h6⟩ := S.loc id b h0
    obtain ⟨g1, g2, g3⟩ := l3 id base n h3
    refine ⟨h1, ?_, base, n, h3, us, ty, h4, h5, fun j hj => ?_⟩
    · rw [E0 id (by omega), if_neg, h2]
      · unfold kil
        rw [if_neg (by simpa using hn)]
      · rintro ⟨_, hts⟩
        unfold kilOk at hk
        have := List.all_eq_true.1 hk id hts
        rw [Bool.or_eq_true] at this
        rcases this with this | this
        · simp only [Bool.not_eq_true', List.any_eq_false, decide_eq_true_iff] at this
          exact this _ h3 rfl
        · exact hn (by simpa using this)
    · rw [E0 (base + j) (by omega)]
      split
      · unfold Rel; trivial
      · exact kil_Rel k _ _ (h6 j hj)
  · obtain ⟨h0, hn⟩ := harrs i x h
    obtain ⟨h1, l, xs, h2, h3, h4, h5, h6, h7⟩ := S.arr i x h0
    refine ⟨h1, l, xs, ?_, h3, h4, h5, h6, RowL_mono (fun b _ hb => ⟨fun h => hb (kil_hot h), rfl⟩) l xs h7⟩
    rw [kilR0_lt _ _ _ h1]
    unfold kil1
    rw [if_neg (by omega), if_neg (by rw [Nat.add_sub_cancel_left]; exact fun e => hn e.2), h2]
    rfl
  · rw [kilR0_lt _ _ _ hi] at h
    unfold kil1 at h
    rw [if_neg (by omega), Nat.add_sub_cancel_left] at h
    by_cases hn : i ∈ k.as
    · rw [if_pos ⟨by omega, hn⟩] at h; cases h
    · rw [if_neg (fun e => hn e.2)] at h
      cases hρ : ρ (L.ab + i) with
      | arr q' s' e' l' =>
        obtain ⟨x, hx⟩ := S.arn i q' s' e' l' hi hρ
        exact ⟨x, by unfold Ctx.kil; simp only; rw [if_neg hn]; exact hx⟩
      | ptr id off => rw [hρ] at h; unfold kil at h; split at h <;> cases h
      | own a b => rw [hρ] at h; unfold kil at h; split at h <;> cases h
      | epo a b c d => rw [hρ] at h; unfold kil at h; split at h <;> cases h
      | dead => rw [hρ] at h; unfold kil at h; cases h
      | bool b => rw [hρ] at h; unfold kil at h; cases h
      | int a b => rw [hρ] at h; unfold kil at h; cases h
      | fn f => rw [hρ] at h; unfold kil at h; cases h
      | str s => rw [hρ] at h; unfold kil at h; cases h
      | nil0 => rw [hρ] at h; unfold kil at h; cases h
      | lst l => rw [hρ] at h; unfold kil at h; cases h
      | agg l => rw [hρ] at h; unfold kil at h; cases h
      | tup l => rw [hρ] at h; unfold kil at h; cases h
      | ept a b c => rw [hρ] at h; unfold kil at h; cases h
def kilR (L : Lay) (k : Kil) (ρ : Nat → V) : Nat → V := kilR0 L k (upd ρ (frz L ρ k.fz))
theorem St.forget (S : St P L G w0 X0 C ρ a w) (hL : layOk L = true) {k : Kil} (hk : kilOk L k = true) : St P L G w0 X0 ((C.frz k.fz).kil k) (kilR L k ρ) a w := (S.frz hL k.fz).forget0 hL hk
end
end Go.Proofs.YtmbdbkcifmkpbaaGreatDoor.Den
end
section
set_option linter.unusedVariables false
set_option linter.unnecessarySimpa false
set_option linter.unusedSimpArgs false
namespace Go.Proofs.YtmbdbkcifmkpbaaGreatDoor.Den
open Go Go.RowKit

/-- Abstract code. -/
inductive Ir where
  | skip
  | reg (is : List Ins)
  | seq (a b : Ir)
  | cond (c : Sr) (a b : Ir)
  | block (id : Nat) (b : Ir)
  | exit (id : Nat)
  | loop (k : Kil) (b : Ir)
  | ret
  | kil (k : Kil) (b : Ir)
  | bad
  | dfr (t : Nat)
  deriving Inhabited
inductive Out where
  | norm (ρ : Nat → V)
  | exit (id : Nat) (ρ : Nat → V)
  | ret (ρ : Nat → V)
def loopF (body : (Nat → V) → Option Out) (kl : (Nat → V) → Nat → V) : Nat → (Nat → V) → Option Out
  | 0, _ => none
  | n + 1, ρ => match body ρ with
    | some (.norm ρ') => loopF body kl n (kl ρ')
    | some (.exit id ρ') => some (.exit id ρ')
    | some (.ret ρ') => some (.ret ρ')
    | none => none
def run (D : Nat → List V → Option V) (L : Lay) (n : Nat) : Ir → (Nat → V) → Option Out
  | .skip, ρ => some (.norm ρ)
  | .reg is, ρ => (runI D L is ρ).map .norm
  | .seq a b, ρ => match run D L n a ρ with
    | some (.norm ρ') => run D L n b ρ'
    | some (.exit id ρ') => some (.exit id ρ')
    | some (.ret ρ') => some (.ret ρ')
    | none => none
  | .cond c a b, ρ => match ev ρ c with
    | .bool true => run D L n a ρ
    | .bool false => run D L n b ρ
    | _ => none
  | .block id b, ρ => match run D L n b ρ with
    | some (.norm ρ') => some (.norm ρ')
    | some (.exit id' ρ') => if id' = id then some (.norm ρ') else some (.exit id' ρ')
    | some (.ret ρ') => some (.ret ρ')
    | none => none
  | .exit id, ρ => some (.exit id ρ)
  | .loop k b, ρ => loopF (run D L n b) (kilR L k) n ρ
  | .ret, ρ => some (.ret ρ)
  | .kil k b, ρ => run D L n b (kilR L k ρ)
  | .bad, ρ => none
  | .dfr t, ρ => if t < L.nt ∧ dstB ρ (some t) = true then some (.norm (upd ρ (dstW .dead (some t)))) else none

/-- a function is made and deferred -/
def dfrB (ops : Array Oper) (t : Nat) : Bool :=
  match ops.toList with
  | [⟨some t1, .makeFunc (.func g) first cap, _, _, _, none⟩, ⟨none, .defer ⟨.value (.tmp t2), args, _⟩, _, _, _, none⟩] =>
    decide (g = NF) && (decide (first = #[]) && (decide (cap.size = 2) && (decide (t1 = t) && (decide (t2 = t) && decide (args = #[])))))
  | _ => false
def chkC (P : Program) (L : Lay) : Ir → Code → Bool
  | .skip, .skip => true
  | .reg is, .region _ ops draw => chkR P L ops draw is
  | .seq a b, .seq x y => chkC P L a x && chkC P L b y
  | .cond c a b, .cond c' x y => chkSr L c' c && (chkC P L a x && chkC P L b y)
  | .block id b, .block id' x => decide (id' = id) && chkC P L b x
  | .exit id, .exit id' => decide (id' = id)
  | .loop k b, .loop x => kilOk L k && chkC P L b x
  | .ret, .ret => true
  | .kil k b, c => kilOk L k && chkC P L b c
  | .bad, _ => true
  | .dfr t, .region _ ops false => dfrB ops t
  | _, _ => false

/-- What code comes to. -/
def Post (P : Program) (L : Lay) (G : World → Prop) (w0 : World) (X0 : Nat → Prop) : Out → Exit → Act → World → Prop
  | .norm ρ, e, a, w => e = .normal ∧ ∃ C, St P L G w0 X0 C ρ a w
  | .exit id ρ, e, a, w => e = .exit id ∧ ∃ C, St P L G w0 X0 C ρ a w
  | .ret ρ, e, a, w => e = .ret ∧ ∃ C, St P L G w0 X0 C ρ a w

/-- The next round of a loop, or its end. -/
def Rounds (P : Program) (c : Code) (Q : Exit → Act → World → Prop) (a : Act) (w : World) : Prop :=
  ∀ (b : Frame) (k : List Item) (cs : List Frame), ∃ e a' w', Q e a' w' ∧ Arrives P (lone (b.at a (.code c :: .inLoop c :: k)) cs w) b k cs e a' w'
theorem rounds_step {P : Program} {c : Code} {Q : Exit → Act → World → Prop} {a : Act} {w : World} (h : c.wp P (Exit.then (Rounds P c Q) Q) a w) : Rounds P c Q a w := by
  intro b k cs
  obtain ⟨e, a₁, w₁, hq, harr⟩ := h b (.inLoop c :: k) cs
  cases e with
  | normal =>
    obtain ⟨e₂, a₂, w₂, hq₂, harr₂⟩ := hq b k cs
    exact ⟨e₂, a₂, w₂, hq₂, .of_steps (Steps.trans harr (.one step_inLoop)) harr₂⟩
  | exit id => exact ⟨_, a₁, w₁, hq, .pass (x := .inLoop c) rfl (fun _ _ => .inl (by simp)) harr⟩
  | goto l => exact ⟨_, a₁, w₁, hq, .pass (x := .inLoop c) rfl (fun _ _ => .inl (by simp)) harr⟩
  | ret => exact ⟨_, a₁, w₁, hq, .pass (x := .inLoop c) rfl (fun _ _ => .inl (by simp)) harr⟩
  | panic ch => exact ⟨_, a₁, w₁, hq, .pass (x := .inLoop c) rfl (fun _ _ => .inl (by simp)) harr⟩
  | outgrown => exact ⟨_, a₁, w₁, hq, .pass (x := .inLoop c) rfl (fun _ _ => .inl (by simp)) harr⟩
theorem wp_of_rounds {P : Program} {c : Code} {Q : Exit → Act → World → Prop} {a : Act} {w : World} (h : Rounds P c Q a w) : (Code.loop c).wp P Q a w := by
  intro b k cs
  obtain ⟨e, a', w', hq, harr⟩ := h b k cs
  exact ⟨e, a', w', hq, .of_steps (.one step_loop) harr⟩

section
variable {P : Program} {L : Lay} {G : World → Prop} {w0 : World} {X0 : Nat → Prop}
theorem dfr_sound (hL : layOk L = true) (hN : ∀ cap : Array Value, cap.size = 2 → Noop P ⟨.fn (.func NF) cap, #[]⟩) {C : Ctx} {ρ : Nat → V} {a : Act} {w : World} (S : St P L G w0 X0 C ρ a w) {id : Nat} {ops : Array Oper} {t : Nat} (hc : dfrB ops t = true) (ht : t < L.nt) (hs : dstB ρ (some t) = true) :
    (Code.region id ops false).wp P (Post P L G w0 X0 (.norm (upd ρ (dstW .dead (some t))))) a w := by
  unfold dfrB at hc
  split at hc
  · rename_i t1 g first cap ty1 p1 af1 t2 args aty ty2 p2 af2 e
    simp only [Bool.and_eq_true, decide_eq_true_iff] at hc
    obtain ⟨rfl, rfl, h3, rfl, rfl, rfl⟩ := hc
    have eo : ops = #[⟨some t2, .makeFunc (.func NF) #[] cap, ty1, p1, af1, none⟩, ⟨none, .defer ⟨.value (.tmp t2), #[], aty⟩, ty2, p2, af2, none⟩] := by
      cases ops; simpa using e
    subst eo
    refine wp_region ?_
    have S1 := S.put hL (d := some t2) (v := .dead) (u := .func (.func NF) #[] (cap.map a.eval)) (fun t h => by simp only [Option.some.injEq] at h; omega) hs (by unfold Rel; trivial)
    have hget : (a.put (some t2) (.func (.func NF) #[] (cap.map a.eval))).eval (.tmp t2) = .func (.func NF) #[] (cap.map a.eval) := by
      show (a.put (some t2) _).tmps.getD t2 undef = _
      rw [act_put_get a t2 t2 _ (by rw [S.tsz]; exact ht), if_pos rfl]
    show wpOps P _ _ [0, 1] a w
    unfold wpOps
    simp only [List.getElem?_toArray, List.getElem?_cons_zero]
    rw [if_pos (by rfl)]
    left
    show Oper.upon P _ _ _ _ ((execOp a.eval _).run P w)
    have e1 : (execOp a.eval ⟨some t2, .makeFunc (.func NF) #[] cap, ty1, p1, af1, none⟩).run P w = .ok (.value (.func (.func NF) #[] (cap.map a.eval))) w := by
      simp [execOp, Instr.makeFunc]
    rw [e1, Oper.upon_value]
    unfold wpOps
    simp only [List.getElem?_toArray, List.getElem?_cons_succ, List.getElem?_cons_zero]
    rw [if_pos (by rfl)]
    left
    show Oper.upon P _ _ _ _ ((execOp _ _).run P w)
    have e2 : (execOp (a.put (some t2) (.func (.func NF) #[] (cap.map a.eval))).eval ⟨none, .defer ⟨.value (.tmp t2), #[], aty⟩, ty2, p2, af2, none⟩).run P w = .ok (.defer ⟨.fn (.func NF) (cap.map a.eval), #[]⟩) w := by
      simp [execOp, resolve, hget, Deferred.ofValue]
    rw [e2, Oper.upon_defer]
    unfold wpOps
    refine ⟨rfl, C, ?_⟩
    refine ⟨S1.tsz, fun d hd => ?_, S1.tmp, S1.loc, S1.arr, S1.arn, S1.il, S1.ila, S1.ia, S1.ext, S1.below, S1.g, S1.cx⟩
    rcases List.mem_cons.1 hd with rfl | hd
    · exact hN _ (by simpa using h3)
    · exact S1.defs d hd
  · cases hc
theorem run_sound {D : Nat → List V → Option V} (hD : ∀ f args r, D f args = some r → SpA P G f args r) (hm : P.follows .mixedOrders = true) (hL : layOk L = true) (hG : ∀ w w', G w → Below w0.heap.size w w' → G w') (hN : ∀ cap : Array Value, cap.size = 2 → Noop P ⟨.fn (.func NF) cap, #[]⟩) (n : Nat) :
    ∀ (ir : Ir) (c : Code) (ρ : Nat → V) (out : Out), chkC P L ir c = true → run D L n ir ρ = some out → ∀ (C : Ctx) (a : Act) (w : World), St P L G w0 X0 C ρ a w → c.wp P (Post P L G w0 X0 out) a w := by
  intro ir
  induction ir with
  | skip =>
    intro c ρ out hc hr C a w S
    cases c <;> simp only [chkC] at hc <;> try (cases hc)
    simp only [run, Option.some.injEq] at hr
    subst hr
    exact wp_skip ⟨rfl, C, S⟩
  | reg is =>
    intro c ρ out hc hr C a w S
    cases c with
    | region id ops draw =>
      simp only [chkC] at hc
      unfold run at hr
      obtain ⟨ρ', h1, rfl⟩ := Option.map_eq_some_iff.1 hr
      exact sim_reg hD hm S hL hG hc h1 fun C' a' w' S' => ⟨rfl, C', S'⟩
    | _ => simp [chkC] at hc
  | seq x y ihx ihy =>
    intro c ρ out hc hr C a w S
    cases c with
    | seq cx cy =>
      simp only [chkC, Bool.and_eq_true] at hc
      unfold run at hr
      refine wp_seq ?_
      split at hr
      · rename_i ρ' h1
        refine wp_mono (ihx cx ρ _ hc.1 h1 C a w S) ?_
        rintro e a' w' ⟨rfl, C', S'⟩
        exact ihy cy ρ' out hc.2 hr C' a' w' S'
      · rename_i id ρ' h1
        simp only [Option.some.injEq] at hr
        subst hr
        refine wp_mono (ihx cx ρ _ hc.1 h1 C a w S) ?_
        rintro e a' w' ⟨rfl, h⟩
        exact ⟨rfl, h⟩
      · rename_i ρ' h1
        simp only [Option.some.injEq] at hr
        subst hr
        refine wp_mono (ihx cx ρ _ hc.1 h1 C a w S) ?_
        rintro e a' w' ⟨rfl, h⟩
        exact ⟨rfl, h⟩
      · simp at hr
    | _ => simp [chkC] at hc
  | cond s x y ihx ihy =>
    intro c ρ out hc hr C a w S
    cases c with
    | cond cc cx cy =>
      simp only [chkC, Bool.and_eq_true] at hc
      have hv := ev_rel S hc.1
      unfold run at hr
      split at hr
      · rename_i e
        rw [e] at hv
        exact wp_cond_true (Rel_bool hv) (ihx cx ρ out hc.2.1 hr C a w S)
      · rename_i e
        rw [e] at hv
        exact wp_cond_false (Rel_bool hv) (ihy cy ρ out hc.2.2 hr C a w S)
      · simp at hr
    | _ => simp [chkC] at hc
  | block id b ih =>
    intro c ρ out hc hr C a w S
    cases c with
    | block id' cb =>
      simp only [chkC, Bool.and_eq_true, decide_eq_true_iff] at hc
      obtain ⟨rfl, hc⟩ := hc
      unfold run at hr
      refine wp_block ?_
      split at hr
      · rename_i ρ' h1
        simp only [Option.some.injEq] at hr
        subst hr
        refine wp_mono (ih cb ρ _ hc h1 C a w S) ?_
        rintro e a' w' ⟨rfl, h⟩
        exact ⟨rfl, h⟩
      · rename_i id2 ρ' h1
        refine wp_mono (ih cb ρ _ hc h1 C a w S) ?_
        rintro e a' w' ⟨rfl, h⟩
        unfold Exit.inBlock
        split at hr
        · rename_i e
          simp only [Option.some.injEq] at hr
          subst hr
          dsimp only
          rw [if_pos e]
          exact ⟨rfl, h⟩
        · rename_i e
          simp only [Option.some.injEq] at hr
          subst hr
          dsimp only
          rw [if_neg e]
          exact ⟨rfl, h⟩
      · rename_i ρ' h1
        simp only [Option.some.injEq] at hr
        subst hr
        refine wp_mono (ih cb ρ _ hc h1 C a w S) ?_
        rintro e a' w' ⟨rfl, h⟩
        exact ⟨rfl, h⟩
      · simp at hr
    | _ => simp [chkC] at hc
  | exit id =>
    intro c ρ out hc hr C a w S
    cases c with
    | exit id' =>
      simp only [chkC, decide_eq_true_iff] at hc
      subst hc
      simp only [run, Option.some.injEq] at hr
      subst hr
      exact wp_exit ⟨rfl, C, S⟩
    | _ => simp [chkC] at hc
  | loop k b ih =>
    intro c ρ out hc hr C a w S
    cases c with
    | loop cb =>
      simp only [chkC, Bool.and_eq_true] at hc
      unfold run at hr
      refine wp_of_rounds ?_
      have key : ∀ (m : Nat) (ρ : Nat → V), loopF (run D L n b) (kilR L k) m ρ = some out → ∀ (C : Ctx) (a : Act) (w : World), St P L G w0 X0 C ρ a w → Rounds P cb (Post P L G w0 X0 out) a w := by
        intro m
        induction m with
        | zero => intro ρ h; simp [loopF] at h
        | succ m ihm =>
          intro ρ h C a w S
          unfold loopF at h
          refine rounds_step ?_
          split at h
          · rename_i ρ' h1
            refine wp_mono (ih cb ρ _ hc.2 h1 C a w S) ?_
            rintro e a' w' ⟨rfl, C', S'⟩
            exact ihm _ h _ a' w' (S'.forget hL hc.1)
          · rename_i id ρ' h1
            simp only [Option.some.injEq] at h
            subst h
            refine wp_mono (ih cb ρ _ hc.2 h1 C a w S) ?_
            rintro e a' w' ⟨rfl, h⟩
            exact ⟨rfl, h⟩
          · rename_i ρ' h1
            simp only [Option.some.injEq] at h
            subst h
            refine wp_mono (ih cb ρ _ hc.2 h1 C a w S) ?_
            rintro e a' w' ⟨rfl, h⟩
            exact ⟨rfl, h⟩
          · simp at h
      exact key n ρ hr C a w S
    | _ => simp [chkC] at hc
  | ret =>
    intro c ρ out hc hr C a w S
    cases c <;> simp only [chkC] at hc <;> try (cases hc)
    simp only [run, Option.some.injEq] at hr
    subst hr
    exact wp_ret ⟨rfl, C, S⟩
  | kil k b ih =>
    intro c ρ out hc hr C a w S
    have hc' : kilOk L k = true ∧ chkC P L b c = true := by
      cases c <;> simpa only [chkC, Bool.and_eq_true] using hc
    unfold run at hr
    exact ih c _ out hc'.2 hr _ a w (S.forget hL hc'.1)
  | bad =>
    intro c ρ out hc hr C a w S
    simp [run] at hr
  | dfr t =>
    intro c ρ out hc hr C a w S
    cases c with
    | region id ops draw =>
      cases draw with
      | true => simp [chkC] at hc
      | false =>
        simp only [chkC] at hc
        unfold run at hr
        split at hr
        · rename_i hd
          simp only [Option.some.injEq] at hr
          subst hr
          exact dfr_sound hL hN S hc hd.1 hd.2
        · cases hr
    | _ => simp [chkC] at hc
end

/-! ### functions -/
inductive Rs where
  | tmp (t : Nat)
  | cell (p id r n : Nat)
  | one (p id r : Nat)
  deriving Inhabited
structure FnIr where
  L : Lay
  ir : Ir
  res : List Rs
def resV (ρ : Nat → V) : Rs → Option V
  | .tmp t => some (ρ t)
  | .cell p id r n => match ρ p with
    | .ptr id' off => if id' = id ∧ off = 0 then some (.agg ((List.range n).map fun j => ρ (r + j))) else none
    | _ => none
  | .one p id r => match ρ p with
    | .ptr id' off => if id' = id ∧ off = 0 then some (ρ r) else none
    | _ => none
def resL (ρ : Nat → V) : List Rs → Option (List V)
  | [] => some []
  | r :: rs => (resV ρ r).bind fun v => (resL ρ rs).map (v :: ·)
def tupV : List V → V
  | [v] => v
  | l => .tup l
/-- a function's run -/
def runF (D : Nat → List V → Option V) (n : Nat) (F : FnIr) (args : List V) : Option V :=
  if args.length ≤ F.L.nt then
    match run D F.L n F.ir (args0 args) with
    | some (.ret ρ) => (resL ρ F.res).bind fun l => (shrL F.L ρ true l).map fun l => tupV (nmL l)
    | some (.norm ρ) => (resL ρ F.res).bind fun l => (shrL F.L ρ true l).map fun l => tupV (nmL l)
    | _ => none
  else none
mutual
/-- as it is handed over with one array -/
def shrF (L : Lay) (ρ : Nat → V) (k : Nat) : V → Option V
  | .own k' n => if k' = k then (ownE L ρ true k n).map fun _ => .own 0 n else none
  | .agg l => (shrFL L ρ k l).map .agg
  | .bool b => some (.bool b)
  | .int k n => some (.int k n)
  | .fn f => some (.fn f)
  | .str s => some (.str s)
  | .nil0 => some .nil0
  | .lst l => some (.lst l)
  | .dead => none
  | .tup _ => none
  | .ptr _ _ => none
  | .ept _ _ _ => none
  | .epo _ _ _ _ => none
  | .arr _ _ _ _ => none
def shrFL (L : Lay) (ρ : Nat → V) (k : Nat) : List V → Option (List V)
  | [] => some []
  | v :: l => (shrF L ρ k v).bind fun v' => (shrFL L ρ k l).map (v' :: ·)
end
def arrV1 : V → Option (Nat × Nat × List V)
  | .arr true sz ty c => some (sz, ty, c)
  | _ => none
/-- what comes of the end -/
def retFr (F : FnIr) (ρ : Nat → V) : Option V := (resL ρ F.res).bind fun l => match ownsL l with
  | [k] => if F.L.ab + k < F.L.nr then (arrV1 (ρ (F.L.ab + k))).bind fun x => (shrFL F.L ρ k l).map fun l' => .tup [tupV (nmL l'), .arr true x.1 x.2.1 x.2.2] else none
  | _ => none
/-- a function's run that hands an array over -/
def runFr (D : Nat → List V → Option V) (n : Nat) (F : FnIr) (args : List V) : Option V :=
  if args.length ≤ F.L.nt then
    match run D F.L n F.ir (args0 args) with
    | some (.ret ρ) => retFr F ρ
    | some (.norm ρ) => retFr F ρ
    | _ => none
  else none
def chkRs (P : Program) (L : Lay) : ResultVar → Rs → Bool
  | .tmp t, .tmp t' => decide (t = t') && decide (t < L.nt)
  | .cell p ty, .cell p' id r n => decide (p = p') && (decide (p < L.nt) && (sizeIs P ty n && (aggIs P ty true && varFits L id 0 r n)))
  | .cell p ty, .one p' id r => decide (p = p') && (decide (p < L.nt) && (sizeIs P ty 1 && (aggIs P ty false && varFits L id 0 r 1)))
  | _, _ => false
def chkRL (P : Program) (L : Lay) : List ResultVar → List Rs → Bool
  | [], [] => true
  | x :: xs, y :: ys => chkRs P L x y && chkRL P L xs ys
  | _, _ => false
def chkF (P : Program) (f : Nat) (F : FnIr) : Bool :=
  match P.funcs[f]? with
  | some fn => match fn.body with
    | some c => decide (fn.ntmps = F.L.nt) && (layOk F.L && (chkC P F.L F.ir c && chkRL P F.L fn.results.toList F.res))
    | none => false
  | none => false

section
variable {P : Program} {L : Lay} {G : World → Prop} {w0 : World} {X0 : Nat → Prop} {C : Ctx} {ρ : Nat → V} {a : Act} {w : World}
mutual
theorem shrF_Rel (S : St P L G w0 X0 C ρ a w) {k : Nat} {x : ArrC} {c : List V} {F : Nat → Prop} (hx : C.arr k = some x) (hmu : x.mu = true) (hρ : ρ (L.ab + k) = .arr true x.sz x.ty c) (hF : ∀ b, F b → C.hot b) : ∀ (v v' : V) (u : Value), shrF L ρ k v = some v' → Rel C w v u → Rel (arr1 F ⟨x.v, c.length, x.sz, x.ty, true⟩) w v' u
  | .own k' n, v', u, h, hr => by
    unfold shrF at h
    split at h
    · rename_i e
      subst e
      obtain ⟨l, hl, rfl⟩ := Option.map_eq_some_iff.1 h
      obtain ⟨z, xs, hz, _, e3, hn, hln, _⟩ := elems_own S hl
      rw [hx] at hz
      injection hz with hz
      subst hz
      rw [hρ] at e3
      injection e3 with _ _ _ e3
      subst e3
      unfold Rel at hr ⊢
      obtain ⟨y, hy, _, h1, h2⟩ := hr
      rw [hx] at hy
      injection hy with hy
      subst hy
      exact ⟨_, rfl, by show n ≤ c.length; omega, h1, fun _ => h2 (by omega)⟩
    · cases h
  | .agg l, v', u, h, hr => by
    unfold shrF at h
    obtain ⟨l', hl, rfl⟩ := Option.map_eq_some_iff.1 h
    unfold Rel at hr ⊢
    obtain ⟨us, e, hr⟩ := hr
    exact ⟨us, e, shrFL_Rel S hx hmu hρ hF l l' us hl hr⟩
  | .bool b, v', u, h, hr => by simp only [shrF, Option.some.injEq] at h; subst h; unfold Rel at hr ⊢; exact hr
  | .int k n, v', u, h, hr => by simp only [shrF, Option.some.injEq] at h; subst h; unfold Rel at hr ⊢; exact hr
  | .fn f, v', u, h, hr => by simp only [shrF, Option.some.injEq] at h; subst h; unfold Rel at hr ⊢; exact hr
  | .str s, v', u, h, hr => by simp only [shrF, Option.some.injEq] at h; subst h; unfold Rel at hr ⊢; exact hr
  | .nil0, v', u, h, hr => by simp only [shrF, Option.some.injEq] at h; subst h; unfold Rel at hr ⊢; exact hr
  | .lst l, v', u, h, hr => by
    simp only [shrF, Option.some.injEq] at h
    subst h
    unfold Rel at hr ⊢
    exact relP_mono (hot' := (arr1 F ⟨x.v, c.length, x.sz, x.ty, true⟩).hot) (fun b _ hb => ⟨fun h => hb (((hot1 _ _ b).1 h).elim (hF b) fun h => .inr (.inr ⟨k, x, hx, hmu, h.2⟩)), rfl⟩) _ _ hr
  | .dead, v', u, h, hr => by simp [shrF] at h
  | .tup _, v', u, h, hr => by simp [shrF] at h
  | .ptr _ _, v', u, h, hr => by simp [shrF] at h
  | .ept _ _ _, v', u, h, hr => by simp [shrF] at h
  | .epo _ _ _ _, v', u, h, hr => by simp [shrF] at h
  | .arr _ _ _ _, v', u, h, hr => by simp [shrF] at h
theorem shrFL_Rel (S : St P L G w0 X0 C ρ a w) {k : Nat} {x : ArrC} {c : List V} {F : Nat → Prop} (hx : C.arr k = some x) (hmu : x.mu = true) (hρ : ρ (L.ab + k) = .arr true x.sz x.ty c) (hF : ∀ b, F b → C.hot b) : ∀ (l l' : List V) (us : List Value), shrFL L ρ k l = some l' → RelL C w l us → RelL (arr1 F ⟨x.v, c.length, x.sz, x.ty, true⟩) w l' us
  | [], l', us, h, hr => by simp only [shrFL, Option.some.injEq] at h; subst h; unfold RelL at hr ⊢; exact hr
  | v :: l, l', us, h, hr => by
    unfold shrFL at h
    obtain ⟨v', hv, h⟩ := Option.bind_eq_some_iff.1 h
    obtain ⟨l2, hl, rfl⟩ := Option.map_eq_some_iff.1 h
    unfold RelL at hr ⊢
    obtain ⟨u, us', e, h1, h2⟩ := hr
    exact ⟨u, us', e, shrF_Rel S hx hmu hρ hF v v' u hv h1, shrFL_Rel S hx hmu hρ hF l l2 us' hl h2⟩
end
/-- a function's results, as one value -/
theorem res_val {X : Ctx} {l' : List V} {vs : List Value} (hrel : RelL X w l' vs) : Rel X w (tupV (nmL l')) (if h : vs.length = 1 then vs[0] else .tuple vs.toArray) := by
  have hrel3 := nmL_Rel _ _ hrel
  have hlv := RelL_length _ _ hrel3
  by_cases h1 : vs.length = 1
  · rw [dif_pos h1]
    obtain ⟨u, rfl⟩ : ∃ u, vs = [u] := by
      cases vs with
      | nil => simp at h1
      | cons u vs => cases vs with
        | nil => exact ⟨u, rfl⟩
        | cons _ _ => simp at h1
    cases hn : nmL l' with
    | nil => rw [hn] at hlv; simp at hlv
    | cons v rest =>
      rw [hn, RelL] at hrel3
      obtain ⟨u', us', e, h5, h6⟩ := hrel3
      simp only [List.cons.injEq] at e
      obtain ⟨rfl, rfl⟩ := e
      have := RelL_length _ _ h6
      have hrest : rest = [] := List.eq_nil_of_length_eq_zero (by simpa using this.symm)
      subst hrest
      exact h5
  · rw [dif_neg h1]
    have ht : tupV (nmL l') = .tup (nmL l') := by
      cases hn : nmL l' with
      | nil => rfl
      | cons v rest => cases rest with
        | nil => rw [hn] at hlv; simp at hlv; exact absurd hlv h1
        | cons _ _ => rfl
    rw [ht]
    unfold Rel
    exact ⟨vs, rfl, hrel3⟩
theorem res_run (S : St P L G w0 X0 C ρ a w) (hL : layOk L = true) : ∀ (xs : List ResultVar) (rs : List Rs) (l : List V) (f : ResultVar → Sem Value), (∀ u, f (.tmp u) = pure (a.tmps.getD u undef)) → (∀ p t, f (.cell p t) = (do loadVar t (← asAddr (a.tmps.getD p undef)))) →
    chkRL P L xs rs = true → resL ρ rs = some l → ∃ us, (xs.mapM f).run P w = .ok us w ∧ RelL C w l us
  | [], [], l, f, h1, h2, hc, hr => by
    simp only [resL, Option.some.injEq] at hr
    subst hr
    exact ⟨[], by simp, by unfold RelL; rfl⟩
  | x :: xs, r :: rs, l, f, h1, h2, hc, hr => by
    unfold chkRL at hc
    rw [Bool.and_eq_true] at hc
    unfold resL at hr
    obtain ⟨v, hv, hr⟩ := Option.bind_eq_some_iff.1 hr
    obtain ⟨l', hl', rfl⟩ := Option.map_eq_some_iff.1 hr
    obtain ⟨us, hus, hrel⟩ := res_run S hL xs rs l' f h1 h2 hc.2 hl'
    have hone : ∃ u, (f x).run P w = .ok u w ∧ Rel C w v u := by
      have hcx := hc.1
      unfold chkRs at hcx
      split at hcx
      · rename_i t t'
        simp only [Bool.and_eq_true, decide_eq_true_iff] at hcx
        obtain ⟨rfl, ht⟩ := hcx
        simp only [resV, Option.some.injEq] at hv
        subst hv
        exact ⟨_, by rw [h1]; rfl, S.tmp _ ht⟩
      · rename_i p ty p' id r n
        simp only [Bool.and_eq_true, decide_eq_true_iff] at hcx
        obtain ⟨rfl, hp, hs, ha, hfit⟩ := hcx
        simp only [resV] at hv
        split at hv
        · rename_i id' off e
          split at hv
          · rename_i he
            obtain ⟨rfl, rfl⟩ := he
            simp only [Option.some.injEq] at hv
            subst hv
            have ht := S.tmp p hp
            rw [e] at ht
            unfold Rel at ht
            obtain ⟨b, hb, e2⟩ := ht
            obtain ⟨base, m, hm, hre, hfm⟩ := varFits_mem hfit
            obtain ⟨_, _, base', m', hm', us2, ty2, q1, q2, q3⟩ := S.loc _ b hb
            have hsame : base' = base ∧ m' = m := by
              obtain ⟨_, _, _, l4⟩ := layOk_spec hL
              rcases l4 _ _ _ _ _ _ hm hm' with e | e
              · exact e.2
              · exact absurd rfl e.1
            obtain ⟨rfl, rfl⟩ := hsame
            have hrl : RelL C w ((List.range n).map fun j => ρ (r + j)) (us2.toList.take n) := by
              refine RelL_of _ _ (by simp; omega) fun j hj => ?_
              simp only [List.length_map, List.length_range] at hj
              have := q3 j (by omega)
              rw [List.getD_eq_getElem?_getD, List.getElem?_map, List.getElem?_range hj, List.getD_eq_getElem?_getD, List.getElem?_take, if_pos hj, Array.getElem?_toList]
              rw [Array.getD_eq_getD_getElem?, Array.getElem?_eq_getElem (by omega)] at this
              rw [Array.getElem?_eq_getElem (by omega), hre, Nat.add_zero]
              exact this
            have hload := run_load_cells (P := P) (w := w) (b := b) (o := 0) (us := us2.toList.take n) (g := true) hs ha (by simp; omega) (fun e => by cases e) (fun j u hj => by
              rw [List.getElem?_take] at hj
              split at hj
              · rw [Array.getElem?_toList] at hj
                rw [Nat.zero_add, cell_of_row w b _ us2 ty2 (0, 0) q1]
                exact hj
              · cases hj)
            refine ⟨.agg (us2.toList.take n).toArray, ?_, by unfold Rel; exact ⟨_, rfl, hrl⟩⟩
            rw [h2, e2]
            simpa [Instr.loadAt, Instr.sureAddr, asAddr] using hload
          · simp at hv
        · simp at hv
      · rename_i p ty p' id r
        simp only [Bool.and_eq_true, decide_eq_true_iff] at hcx
        obtain ⟨rfl, hp, hs, ha, hfit⟩ := hcx
        simp only [resV] at hv
        split at hv
        · rename_i id' off e
          split at hv
          · rename_i he
            obtain ⟨rfl, rfl⟩ := he
            simp only [Option.some.injEq] at hv
            subst hv
            have ht := S.tmp p hp
            rw [e] at ht
            unfold Rel at ht
            obtain ⟨b, hb, e2⟩ := ht
            obtain ⟨base, m, hm, hre, hfm⟩ := varFits_mem hfit
            obtain ⟨_, _, base', m', hm', us2, ty2, q1, q2, q3⟩ := S.loc _ b hb
            have hsame : base' = base ∧ m' = m := by
              obtain ⟨_, _, _, l4⟩ := layOk_spec hL
              rcases l4 _ _ _ _ _ _ hm hm' with e | e
              · exact e.2
              · exact absurd rfl e.1
            obtain ⟨rfl, rfl⟩ := hsame
            have h0 := q3 0 (by omega)
            have hlt : 0 < us2.size := by omega
            rw [Array.getD_eq_getD_getElem?, Array.getElem?_eq_getElem hlt] at h0
            have hload := run_load_cells (P := P) (w := w) (b := b) (o := 0) (us := [us2[0]]) (g := false) hs ha (by simp) (fun _ => by omega) (fun j u hj => by
              cases j with
              | zero =>
                simp only [List.getElem?_cons_zero, Option.some.injEq] at hj
                subst hj
                rw [Nat.zero_add, cell_of_row w b _ us2 ty2 (0, 0) q1, Array.getElem?_eq_getElem hlt]
              | succ j => simp at hj)
            refine ⟨us2[0], ?_, by rw [hre]; exact h0⟩
            rw [h2, e2]
            simpa [Instr.loadAt, Instr.sureAddr, asAddr] using hload
          · simp at hv
        · simp at hv
      · cases hcx
    obtain ⟨u, hu, hrv⟩ := hone
    refine ⟨u :: us, ?_, by unfold RelL; exact ⟨u, us, rfl, hrv, hrel⟩⟩
    rw [List.mapM_cons]
    simp [hu, hus]
  | [], _ :: _, l, f, h1, h2, hc, hr => by simp [chkRL] at hc
  | _ :: _, [], l, f, h1, h2, hc, hr => by simp [chkRL] at hc
end
end Go.Proofs.YtmbdbkcifmkpbaaGreatDoor.Den
end
