/- Parts of the proof, joined: The numbers' functions, as values. Lengths and limbs. Dyadic numbers, as values. Words as dyadic numbers; shapes. Grids: the program's. Grids: number by number. Grids: a number at its place; the product. Grids: the product. Grids: number by number, less. -/
import Derived.Test.YtmbdbkcifmkpbaaGreatDoorCEnv
import Derived.Test.YtmbdbkcifmkpbaaGreatDoorCDnB
section
set_option linter.unusedVariables false
set_option linter.unusedSimpArgs false
namespace Go.Proofs.YtmbdbkcifmkpbaaGreatDoor.Den
open Go
open Go.Proofs.YtmbdbkcifmkpbaaGreatDoor.OwnA (u64s finF signF shlF toldF normF addF cmpF subF mulF checkF Dy)
open Go.Proofs.YtmbdbkcifmkpbaaGreatDoor.PResid (okL okU okL_iff okU_iff)
set_option maxRecDepth 10000
set_option maxHeartbeats 1000000
attribute [local simp] runW_skip  runW_reg  runW_seq  runW_cond  runW_block  runW_exit  runW_ret  runW_kil  runI_nil  runI_cons  exec_none  exec_some  opV  dstB  dstW  upd_nil  upd_cons  upd1_at  args0_zero  args0_succ  args0_nil  ev  cellsV  isDead  notSelf  allCell  cellB  shrL  shr  ownsL  owns  ownE  elems  frz  noLst  noLstL  outV_ret  outV_norm  retV  resL  resV  tupV  nmL  nm  normB_norm  normB_exit  normB_ret  stOf_norm  stOf_exit  stOf_ret  blkO_norm  blkO_exit  blkO_ret  boolV  isBoolV  isSkV  binV  unV  fillV  chunk  sizesB  sizeV  List.mapIdx_cons  List.mapIdx_nil  List.mapIdx  List.mapIdx.go  List.range  List.range.loop  List.map_cons  List.map_nil  Option.isSome_some  Option.isSome_none  Option.getD_some  Option.map_some  Option.bind_some  Option.map_none  Option.bind_none  List.append_nil  List.nil_append  List.cons_append  List.isEmpty_nil  List.isEmpty_cons  Bool.and_true  Bool.true_and  Bool.and_false  Bool.false_and  Bool.or_true  Bool.or_false  Bool.true_or  Bool.false_or  Bool.not_true  Bool.not_false  List.length_cons  List.length_nil  List.take  List.drop  List.getD_cons_zero  List.getD_cons_succ  List.getElem?_cons_zero  List.getElem?_cons_succ  List.replicate  List.flatten kilR0 frzd isFz ren renL frV frQ_norm frQ_ret retFr shrF shrFL arrV1
theorem fnE {f : Nat} {F : FnIr} {args : List V} {r : V} (hp : prims.lookup f = none) (hF : tab.lookup f = some F) (h : outV F (runW (D E) F.L F.ir (args0 args)) = some r) (hl : args.length ≤ F.L.nt := by exact Nat.le_of_ble_eq_true rfl) (hf : f < FR := by decide) : D E f args = some r := D_fn (E := E) hp hF hl h hf
theorem prE {f : Nat} {p : List V → Option V} {args : List V} {r : V} (hp : prims.lookup f = some p) (h : p args = some r) : D E f args = some r := D_prim (E := E) hp h
def wh (n : Bool) (l : List Int) : V := .agg [.bool n, .lst (l.map (V.int .u64))]
def enc (n : Bool) (l : List Int) (x : Int) : V := .agg [.bool n, .lst (l.map (V.int .u64)), .int .i64 x]
theorem limbs_is (l : List Int) : limbs l = .lst (l.map (V.int .u64)) := rfl
theorem d83 (n : Int) (h0 : 0 ≤ n) (h1 : n ≤ 65536) : D E 110 [.int .i64 n] = some (.bool false) := by
  refine fnE (F := ir110) (by kernel_rfl) (by kernel_rfl) ?_
  have e1 : ¬ n < 0 := by omega
  have e2 : ¬ 65536 < n := by omega
  simp [ir110, e1, e2]
theorem d71 (n : Bool) (l : List Int) (x : Int) (hl : l.length ≤ 100000) : D E 89 [enc n l x] = some (.int .i64 (checkF l x)) := by
  refine fnE (F := ir89) (by kernel_rfl) (by kernel_rfl) ?_
  unfold checkF enc
  by_cases h1 : x < -16384
  · simp [ir89, h1]
  · by_cases h2 : 16384 < x
    · simp [ir89, h1, h2]
    · by_cases h3 : 1024 < l.length
      · have h4 : (1024 : Int) < (l.length : Int) := by omega
        simp [ir89, h1, h2, h3, h4]
      · have h4 : ¬ (1024 : Int) < (l.length : Int) := by omega
        simp [ir89, h1, h2, h3, h4]
theorem d73 (n : Bool) (l : List Int) (x : Int) : D E 91 [enc n l x] = some (wh n l) := by
  refine fnE (F := ir91) (by kernel_rfl) (by kernel_rfl) ?_
  simp [ir91, enc, wh]
theorem d84 (l : List Int) (n : Int) (hl : l.length ≤ 100000) (hu : u64s l) (h0 : 0 ≤ n) (h1 : n ≤ 65536) : D E 111 [.lst (l.map (V.int .u64)), .int .i64 n] = some (.lst ((shlF l n).map (V.int .u64))) := by
  refine prE (p := p84) (by kernel_rfl) ?_
  have := okL_iff.2 ⟨hl, hu⟩
  simp [p84, asUs_map, PResid.natdiv_shl.f, this, h0, h1, limbs_is]
theorem d74 (l : List Int) (n : Int) (hl : l.length ≤ 100000) (hu : u64s l) (h0 : 0 ≤ n) (h1 : n ≤ 65536) : D E 92 [.lst (l.map (V.int .u64)), .int .i64 n] = some (.tup [.lst ((shlF l n).map (V.int .u64)), .int .i64 0]) := by
  refine fnE (F := ir92) (by kernel_rfl) (by kernel_rfl) ?_
  simp [ir92, d83 n h0 h1, d84 l n hl hu h0 h1]

def okS (l : List Int) : Prop := l.length ≤ 100000 ∧ u64s l
theorem d75 (n : Bool) (l : List Int) (h : okS l) : D E 93 [wh n l] = some (.int .i64 (signF n l)) := by
  refine prE (p := p75) (by kernel_rfl) ?_
  have := okL_iff.2 h
  simp [p75, wh, asUs_map, PResid.whole_Sign.f, this]
theorem d88 (a b : List Int) (ha : okS a) (hb : okS b) : D E 107 [.lst (a.map (V.int .u64)), .lst (b.map (V.int .u64))] = some (.lst ((addF a b).map (V.int .u64))) := by
  refine prE (p := p88) (by kernel_rfl) ?_
  have h1 := okL_iff.2 ha
  have h2 := okL_iff.2 hb
  simp [p88, asUs_map, PResid.nat_Add.f, h1, h2, limbs_is]
theorem d91 (a b : List Int) (ha : okS a) (hb : okS b) : D E 117 [.lst (a.map (V.int .u64)), .lst (b.map (V.int .u64))] = some (.lst ((subF a b).map (V.int .u64))) := by
  refine prE (p := p91) (by kernel_rfl) ?_
  have h1 := okL_iff.2 ha
  have h2 := okL_iff.2 hb
  simp [p91, asUs_map, PResid.nat_Sub.f, h1, h2, limbs_is]
theorem d92 (a b : List Int) (ha : okS a) (hb : okS b) : D E 118 [.lst (a.map (V.int .u64)), .lst (b.map (V.int .u64))] = some (.lst ((mulF a b).map (V.int .u64))) := by
  refine prE (p := p92) (by kernel_rfl) ?_
  have h1 := okL_iff.2 ha
  have h2 := okL_iff.2 hb
  simp [p92, asUs_map, PResid.nat_Mul.f, h1, h2, limbs_is]
theorem d90 (a b : List Int) (ha : okS a) (hb : okS b) : D E 106 [.lst (a.map (V.int .u64)), .lst (b.map (V.int .u64))] = some (.int .i64 (cmpF a b)) := by
  refine prE (p := p90) (by kernel_rfl) ?_
  have h1 := okL_iff.2 ha
  have h2 := okL_iff.2 hb
  simp [p90, asUs_map, PResid.nat_Cmp.f, h1, h2]
def mdN (n : Bool) (l : List Int) : Bool := n && decide (0 < (normF l).length)
theorem d87 (n : Bool) (l : List Int) (h : okS l) : D E 115 [.bool n, .lst (l.map (V.int .u64))] = some (wh (mdN n l) (normF l)) := by
  refine prE (p := p87) (by kernel_rfl) ?_
  have := okL_iff.2 h
  simp [p87, wh, asUs_map, PResid.whole_made.f, this, limbs_is, mdN]
theorem d86 (n : Bool) (l : List Int) (h : okS l) : D E 112 [wh n l] = some (wh (mdN (!n) l) (normF l)) := by
  refine fnE (F := ir112) (by kernel_rfl) (by kernel_rfl) ?_
  have := d87 (!n) l h
  unfold wh at *
  simp [ir112, this]
theorem d89 (q : Bool) (n m : Bool) (k l : List Int) : D E 116 [.bool q, wh n k, wh m l] = some (if q then wh n k else wh m l) := by
  refine fnE (F := ir116) (by kernel_rfl) (by kernel_rfl) ?_
  unfold wh
  cases q <;> simp [ir116]
def whAddN (n : Bool) (k : List Int) (m : Bool) (l : List Int) : Bool := if n = m then mdN n (addF k l) else mdN (if cmpF k l < 0 then m else n) (subF k l)
def whAddL (n : Bool) (k : List Int) (m : Bool) (l : List Int) : List Int := normF (if n = m then addF k l else subF k l)
theorem d77 (n m : Bool) (k l : List Int) (hk : okS k) (hl : okS l) (ha : okS (addF k l)) (hs : okS (subF k l)) : D E 101 [wh n k, wh m l] = some (wh (whAddN n k m l) (whAddL n k m l)) := by
  refine fnE (F := ir101) (by kernel_rfl) (by kernel_rfl) ?_
  unfold whAddN whAddL
  by_cases h : n = m
  · subst h
    have h1 := d88 k l hk hl
    have h2 := d87 n (addF k l) ha
    unfold wh at *
    simp [ir101, h1, h2]
  · have h0 : (n == m) = false := by simpa using h
    have h1 := d90 k l hk hl
    have h2 := d91 k l hk hl
    by_cases hc : cmpF k l < 0
    · have h3 := d89 true m n l k
      have h4 := d87 m (subF k l) hs
      unfold wh at *
      simp [ir101, h, h0, h1, h2, h3, h4, hc]
    · have h3 := d89 false m n l k
      have h4 := d87 n (subF k l) hs
      unfold wh at *
      simp [ir101, h, h0, h1, h2, h3, h4, hc]
theorem d78 (n m : Bool) (k l : List Int) (hk : okS k) (hl : okS l) (ha : okS (mulF k l)) : D E 102 [wh n k, wh m l] = some (wh (mdN (n != m) (mulF k l)) (normF (mulF k l))) := by
  refine fnE (F := ir102) (by kernel_rfl) (by kernel_rfl) ?_
  have h1 := d92 k l hk hl
  have h2 := d87 (n != m) (mulF k l) ha
  unfold wh at *
  cases n <;> cases m <;> simp at h2 <;> simp [ir102, h1, h2]
theorem d76 (n m : Bool) (k l : List Int) (hk : okS k) (hl : okS l) (hn : okS (normF l)) (ha : okS (addF k (normF l))) (hs : okS (subF k (normF l))) : D E 94 [wh n k, wh m l] = some (wh (whAddN n k (mdN (!m) l) (normF l)) (whAddL n k (mdN (!m) l) (normF l))) := by
  refine fnE (F := ir94) (by kernel_rfl) (by kernel_rfl) ?_
  have h1 := d86 m l hl
  have h2 := d77 n (mdN (!m) l) k (normF l) hk hn ha hs
  unfold wh at *
  simp [ir94, h1, h2]
theorem d58 (n m : Bool) (k l : List Int) (hk : okS k) (hl : okS l) (hn : okS (normF l)) (ha : okS (addF k (normF l))) (hs : okS (subF k (normF l))) (ho : okS (whAddL n k (mdN (!m) l) (normF l))) : D E 71 [wh n k, wh m l] = some (.int .i64 (signF (whAddN n k (mdN (!m) l) (normF l)) (whAddL n k (mdN (!m) l) (normF l)))) := by
  refine fnE (F := ir71) (by kernel_rfl) (by kernel_rfl) ?_
  have h1 := d76 n m k l hk hl hn ha hs
  have h2 := d75 (whAddN n k (mdN (!m) l) (normF l)) (whAddL n k (mdN (!m) l) (normF l)) ho
  unfold wh at *
  simp [ir71, h1, h2]
theorem d72 (n : Bool) (l : List Int) (x : Int) (h : okS l) (h0 : -1000000 ≤ x) (h1 : x ≤ 1000000) : D E 90 [wh n l, .int .i64 x] = some (.tup [enc (toldF n l x).neg (toldF n l x).abs (toldF n l x).exp, .int .i64 (toldF n l x).e]) := by
  refine prE (p := p72) (by kernel_rfl) ?_
  have := okL_iff.2 h
  simp [p72, wh, enc, asUs_map, PResid.dyadic_told.f, this, h0, h1, limbs_is]
end Go.Proofs.YtmbdbkcifmkpbaaGreatDoor.Den
end
section
set_option linter.unusedVariables false
set_option linter.unusedSimpArgs false
set_option linter.unnecessarySimpa false
namespace Go.Proofs.YtmbdbkcifmkpbaaGreatDoor.Den
open Go
open Go.Proofs.YtmbdbkcifmkpbaaGreatDoor.OwnA
theorem shlL_u64 (s : Nat) : ∀ (l : List Int) (c : Int), u64s l → 0 ≤ c → c < 18446744073709551616 → u64s (OwnA.shlL s l c)
  | [], c, _, h0, h1 => by
    intro y hy
    simp only [OwnA.shlL, List.mem_cons, List.not_mem_nil, or_false] at hy
    subst hy
    exact ⟨h0, h1⟩
  | x :: l, c, hu, h0, h1 => by
    intro y hy
    simp only [OwnA.shlL, List.mem_cons] at hy
    have hx := hu x (List.mem_cons_self ..)
    rcases hy with rfl | hy
    · exact bits_u64 _ _ _
    · exact shlL_u64 s l _ (fun z hz => hu z (List.mem_cons_of_mem _ hz)) (shlC_bd s hx.1 hx.2).1 (shlC_bd s hx.1 hx.2).2 y hy
theorem shlF_ok {l : List Int} {n : Int} (hu : u64s l) : u64s (shlF l n) := by
  refine normF_u64 fun y hy => ?_
  rcases List.mem_append.1 hy with h | h
  · exact u64s_zeros _ y h
  · exact shlL_u64 _ l 0 hu (by omega) (by omega) y h
theorem shlF_len (l : List Int) (n : Int) : (shlF l n).length ≤ (n / 64).toNat + (l.length + 1) := by
  refine Nat.le_trans (normF_len _) ?_
  rw [List.length_append, List.length_replicate, OwnA.shlL_len]
  exact Nat.le_refl _
theorem addL_u64 (a b : List Int) : ∀ (n i : Nat) (c : Int), u64s (addL a b n i c)
  | n, 0, c => by intro y hy; simp [addL] at hy
  | n, i + 1, c => by
    intro y hy
    simp only [addL, List.mem_cons] at hy
    rcases hy with rfl | hy
    · constructor <;> omega
    · exact addL_u64 a b _ i _ y hy
theorem addF_ok (a b : List Int) : u64s (addF a b) := normF_u64 (addL_u64 a b _ _ _)
theorem addF_len (a b : List Int) : (addF a b).length ≤ max a.length b.length + 1 := by
  refine Nat.le_trans (normF_len _) ?_
  rw [addL_len]
  exact Nat.le_refl _
theorem subF_ok (a b : List Int) : u64s (subF a b) := by
  unfold subF subG
  split <;> exact normF_u64 (subL_u64 _ _ _ _ _)
theorem subF_len (a b : List Int) : (subF a b).length ≤ max a.length b.length := by
  unfold subF subG
  split
  · refine Nat.le_trans (normF_len _) ?_
    rw [subL_len]
    omega
  · refine Nat.le_trans (normF_len _) ?_
    rw [subL_len]
    omega
theorem mulF_ok (a b : List Int) : u64s (mulF a b) := normF_u64 (mulL_u64 a b _ _ (u64s_zeros _))
theorem mulF_len (a b : List Int) : (mulF a b).length ≤ a.length + b.length + 1 := by
  refine Nat.le_trans (normF_len _) ?_
  rw [mulL_len, List.length_replicate]
  exact Nat.le_refl _
/-- a number that may be -/
structure Gd (l : List Int) (x : Int) : Prop where
  u : u64s l
  n : l.length ≤ 1024
  lo : -16384 ≤ x
  hi : x ≤ 16384
theorem Gd0 : Gd [] 0 := ⟨fun y hy => by simp at hy, by simp, by omega, by omega⟩
theorem Gd.ok {l : List Int} {x : Int} (h : Gd l x) : okS l := ⟨Nat.le_trans h.n (by omega), h.u⟩
theorem Gd.chk {l : List Int} {x : Int} (h : Gd l x) : checkF l x = 0 := by
  unfold checkF
  rw [if_neg]
  have := h.n
  have := h.lo
  have := h.hi
  omega
theorem told_gd (n : Bool) (l : List Int) (x : Int) (hu : u64s l) : Gd (toldF n l x).abs (toldF n l x).exp := by
  unfold toldF
  split
  · exact Gd0
  · split
    · rename_i h
      have hc := h
      unfold checkF at hc
      split at hc
      · exact absurd hc (by decide)
      · rename_i hc
        exact ⟨normF_u64 (shrLoop_u64 _ _ _ hu), by dsimp only; omega, by dsimp only; omega, by dsimp only; omega⟩
    · exact Gd0
end Go.Proofs.YtmbdbkcifmkpbaaGreatDoor.Den
end
section
set_option linter.unusedVariables false
set_option linter.unusedSimpArgs false
namespace Go.Proofs.YtmbdbkcifmkpbaaGreatDoor.Den
open Go
open Go.Proofs.YtmbdbkcifmkpbaaGreatDoor.OwnA (u64s finF signF shlF toldF normF addF cmpF subF mulF checkF Dy)
set_option maxRecDepth 10000
set_option maxHeartbeats 1000000
attribute [local simp] Ok_true Br_true Br_false rtV exec_none exec_some opV dstB dstW upd_nil upd_cons upd1_at args0_zero args0_succ args0_nil ev cellsV isDead notSelf allCell cellB shrL shr ownsL owns ownE elems frz noLst noLstL outV_ret outV_norm retV resL resV tupV nmL nm boolV isBoolV isSkV binV unV fillV chunk sizesB sizeV List.mapIdx_cons List.mapIdx_nil List.mapIdx List.mapIdx.go List.range List.range.loop List.map_cons List.map_nil Option.isSome_some Option.isSome_none Option.getD_some Option.map_some Option.bind_some Option.map_none Option.bind_none List.append_nil List.nil_append List.cons_append List.isEmpty_nil List.isEmpty_cons Bool.and_true Bool.true_and Bool.and_false Bool.false_and Bool.or_true Bool.or_false Bool.true_or Bool.false_or Bool.not_true Bool.not_false List.length_cons List.length_nil List.take List.drop List.getD_cons_zero List.getD_cons_succ List.getElem?_cons_zero List.getElem?_cons_succ List.replicate List.flatten Wp_skip Wp_exit Wp_ret Wp_kil Wp_reg Wp_dfr Wi_nil Wi_cons Wp_seq Wp_cond Wp_block seqQ_norm seqQ_exit seqQ_ret blkQ_norm blkQ_exit blkQ_ret nrQ_norm nrQ_exit nrQ_ret lpQ_norm lpQ_exit lpQ_ret outQ_norm outQ_ret rgQ_at kilR kil1 kil kilL sets List.set_cons_zero List.set_cons_succ kilR0 frzd isFz ren renL frV frQ_norm frQ_ret retFr shrF shrFL arrV1
theorem wpE {f : Nat} {F : FnIr} {args : List V} {r : V} (hp : prims.lookup f = none) (hF : tab.lookup f = some F) (h : Wp (runW (D E) F.L F.ir (args0 args)) (outQ F.L F.res r)) (hl : args.length ≤ F.L.nt := by exact Nat.le_of_ble_eq_true rfl) (hf : f < FR := by decide) : D E f args = some r := D_wp (E := E) hp hF hl h hf
theorem wrap_id {n : Int} (h0 : -9223372036854775808 ≤ n) (h1 : n < 9223372036854775808) : IntKind.i64.wrap n = n := by
  have e : (2 : Int) ^ (64 - 1) = 9223372036854775808 := by rfl
  have e' : (2 : Int) ^ 64 = 18446744073709551616 := by rfl
  unfold IntKind.wrap
  simp only [IntKind.bits, IntKind.signed, Bool.true_and, decide_eq_true_eq, e, e']
  split <;> omega
attribute [local simp] wrap_id
theorem d56 (n m : Bool) (k l : List Int) (x y : Int) (hk : Gd k x) (hl : Gd l y) : D E 69 [.lst [enc n k x, enc m l y]] = some (.int .i64 0) := by
  refine wpE (F := ir69) (by kernel_rfl) (by kernel_rfl) ?_
  have h1 := d71 n k x hk.ok.1
  have h2 := d71 m l y hl.ok.1
  rw [hk.chk] at h1
  rw [hl.chk] at h2
  have w1 : IntKind.i64.wrap (0 + 1) = 1 := by rfl
  have w2 : IntKind.i64.wrap (1 + 1) = 2 := by rfl
  unfold enc at *
  simp [ir69, h1, h2, w1, w2]
  rw [Wp_round]
  simp [h1, h2, w1, w2]
  rw [Wp_round]
  simp [h1, h2, w1, w2]
  rw [Wp_round]
  simp [h1, h2, w1, w2]
def lev (x y : Int) : Int := if y < x then y else x
theorem d57 (n m : Bool) (k l : List Int) (x y : Int) (hk : Gd k x) (hl : Gd l y) : D E 70 [enc n k x, enc m l y] = some (.tup [wh n (shlF k (x - lev x y)), wh m (shlF l (y - lev x y)), .int .i64 (lev x y)]) := by
  refine wpE (F := ir70) (by kernel_rfl) (by kernel_rfl) ?_
  have h1 := d73 n k x
  have h2 := d73 m l y
  have b1 := hk.lo
  have b2 := hk.hi
  have b3 := hl.lo
  have b4 := hl.hi
  have w1 : IntKind.i64.wrap (x - lev x y) = x - lev x y := wrap_id (by unfold lev; split <;> omega) (by unfold lev; split <;> omega)
  have w2 : IntKind.i64.wrap (y - lev x y) = y - lev x y := wrap_id (by unfold lev; split <;> omega) (by unfold lev; split <;> omega)
  have h3 := d74 k (x - lev x y) hk.ok.1 hk.u (by unfold lev; split <;> omega) (by unfold lev; split <;> omega)
  have h4 := d74 l (y - lev x y) hl.ok.1 hl.u (by unfold lev; split <;> omega) (by unfold lev; split <;> omega)
  unfold enc wh at *
  have e : (if y < x then y else x) = lev x y := rfl
  simp [ir70, h1, h2, h3, h4, w1, w2, e]
theorem okS_shl {l : List Int} {x y : Int} (h : Gd l x) (h0 : x - y ≤ 32768) : okS (shlF l (x - y)) := by
  refine ⟨?_, shlF_ok h.u⟩
  have := shlF_len l (x - y)
  have := h.n
  omega
theorem lev_le (x y : Int) : lev x y ≤ x ∧ lev x y ≤ y ∧ (lev x y = x ∨ lev x y = y) := by unfold lev; split <;> omega
theorem len_shl {l : List Int} {x y : Int} (h : Gd l x) (h0 : x - y ≤ 32768) : (shlF l (x - y)).length ≤ 1537 := by
  have := shlF_len l (x - y)
  have := h.n
  omega
theorem okS_norm {l : List Int} (h : okS l) : okS (normF l) := ⟨Nat.le_trans (OwnA.normF_len l) h.1, OwnA.normF_u64 h.2⟩
theorem okS_add {a b : List Int} (ha : a.length ≤ 50000) (hb : b.length ≤ 50000) : okS (addF a b) := ⟨by have := addF_len a b; omega, addF_ok a b⟩
theorem okS_sub {a b : List Int} (ha : a.length ≤ 50000) (hb : b.length ≤ 50000) : okS (subF a b) := ⟨by have := subF_len a b; omega, subF_ok a b⟩
theorem okS_mul {a b : List Int} (ha : a.length ≤ 40000) (hb : b.length ≤ 40000) : okS (mulF a b) := ⟨by have := mulF_len a b; omega, mulF_ok a b⟩
theorem okS_wa {n m : Bool} {a b : List Int} (ha : a.length ≤ 50000) (hb : b.length ≤ 50000) : okS (whAddL n a m b) := by
  unfold whAddL
  split
  · exact okS_norm (okS_add ha hb)
  · exact okS_norm (okS_sub ha hb)
/-- the two whole numbers of a comparison, or a sum -/
def lx (k : List Int) (x y : Int) : List Int := shlF k (x - lev x y)
def ly (l : List Int) (x y : Int) : List Int := shlF l (y - lev x y)
theorem lx_ok {k l : List Int} {x y : Int} (hk : Gd k x) (hl : Gd l y) : okS (lx k x y) ∧ (lx k x y).length ≤ 1537 ∧ okS (ly l x y) ∧ (ly l x y).length ≤ 1537 := by
  have := lev_le x y
  have b1 := hk.lo
  have b2 := hk.hi
  have b3 := hl.lo
  have b4 := hl.hi
  exact ⟨okS_shl hk (by omega), len_shl hk (by omega), okS_shl hl (by omega), len_shl hl (by omega)⟩
def cmpD (n : Bool) (k : List Int) (x : Int) (m : Bool) (l : List Int) (y : Int) : Int :=
  signF (whAddN n (lx k x y) (mdN (!m) (ly l x y)) (normF (ly l x y))) (whAddL n (lx k x y) (mdN (!m) (ly l x y)) (normF (ly l x y)))
theorem d33 (n m : Bool) (k l : List Int) (x y : Int) (hk : Gd k x) (hl : Gd l y) : D E 41 [enc n k x, enc m l y] = some (.tup [.int .i64 (cmpD n k x m l y), .int .i64 0]) := by
  refine wpE (F := ir41) (by kernel_rfl) (by kernel_rfl) ?_
  have h1 := d56 n m k l x y hk hl
  have h2 := d57 n m k l x y hk hl
  obtain ⟨g1, g2, g3, g4⟩ := lx_ok hk hl
  have g5 := OwnA.normF_len (ly l x y)
  have h3 := d58 n m (lx k x y) (ly l x y) g1 g3 (okS_norm g3) (okS_add (by omega) (by omega)) (okS_sub (by omega) (by omega)) (okS_wa (by omega) (by omega))
  unfold cmpD
  unfold lx ly at *
  unfold enc wh at *
  simp [ir41, h1, h2, h3]
def addD (n : Bool) (k : List Int) (x : Int) (m : Bool) (l : List Int) (y : Int) : Dy := toldF (whAddN n (lx k x y) m (ly l x y)) (whAddL n (lx k x y) m (ly l x y)) (lev x y)
theorem d60 (n m : Bool) (k l : List Int) (x y : Int) (hk : Gd k x) (hl : Gd l y) : D E 83 [enc n k x, enc m l y] = some (.tup [enc (addD n k x m l y).neg (addD n k x m l y).abs (addD n k x m l y).exp, .int .i64 (addD n k x m l y).e]) := by
  refine wpE (F := ir83) (by kernel_rfl) (by kernel_rfl) ?_
  have h1 := d56 n m k l x y hk hl
  have h2 := d57 n m k l x y hk hl
  obtain ⟨g1, g2, g3, g4⟩ := lx_ok hk hl
  have h3 := d77 n m (lx k x y) (ly l x y) g1 g3 (okS_add (by omega) (by omega)) (okS_sub (by omega) (by omega))
  have b := lev_le x y
  have b1 := hk.lo
  have b2 := hk.hi
  have b3 := hl.lo
  have b4 := hl.hi
  have h4 := d72 (whAddN n (lx k x y) m (ly l x y)) (whAddL n (lx k x y) m (ly l x y)) (lev x y) (okS_wa (by omega) (by omega)) (by omega) (by omega)
  unfold addD
  unfold lx ly at *
  unfold enc wh at *
  simp [ir83, h1, h2, h3, h4]
theorem d41 (n m : Bool) (k l : List Int) (x y : Int) (hk : Gd k x) (hl : Gd l y) : D E 82 [enc n k x, enc m l y] = some (.tup [enc (addD n k x (!m) l y).neg (addD n k x (!m) l y).abs (addD n k x (!m) l y).exp, .int .i64 (addD n k x (!m) l y).e]) := by
  refine wpE (F := ir82) (by kernel_rfl) (by kernel_rfl) ?_
  have h1 := d60 n (!m) k l x y hk hl
  unfold enc at *
  simp [ir82, h1]
def mulD (n : Bool) (k : List Int) (x : Int) (m : Bool) (l : List Int) (y : Int) : Dy := toldF (mdN (n != m) (mulF k l)) (normF (mulF k l)) (x + y)
theorem d61 (n m : Bool) (k l : List Int) (x y : Int) (hk : Gd k x) (hl : Gd l y) : D E 84 [enc n k x, enc m l y] = some (.tup [enc (mulD n k x m l y).neg (mulD n k x m l y).abs (mulD n k x m l y).exp, .int .i64 (mulD n k x m l y).e]) := by
  refine wpE (F := ir84) (by kernel_rfl) (by kernel_rfl) ?_
  have h1 := d56 n m k l x y hk hl
  have h2 := d73 n k x
  have h3 := d73 m l y
  have b0 := hk.n
  have b5 := hl.n
  have h4 := d78 n m k l hk.ok hl.ok (okS_mul (by omega) (by omega))
  have b1 := hk.lo
  have b2 := hk.hi
  have b3 := hl.lo
  have b4 := hl.hi
  have h5 := d72 (mdN (n != m) (mulF k l)) (normF (mulF k l)) (x + y) (okS_norm (okS_mul (by omega) (by omega))) (by omega) (by omega)
  have w1 : IntKind.i64.wrap (x + y) = x + y := wrap_id (by omega) (by omega)
  unfold mulD
  unfold enc wh at *
  simp [ir84, h1, h2, h3, h4, h5, w1]
theorem d55 (n : Bool) (l : List Int) (x : Int) (hl : Gd l x) : D E 68 [enc n l x] = some (.tup [enc (toldF n l x).neg (toldF n l x).abs (toldF n l x).exp, .int .i64 (toldF n l x).e]) := by
  refine wpE (F := ir68) (by kernel_rfl) (by kernel_rfl) ?_
  have h1 := d71 n l x hl.ok.1
  rw [hl.chk] at h1
  have h2 := d73 n l x
  have b1 := hl.lo
  have b2 := hl.hi
  have h3 := d72 n l x hl.ok (by omega) (by omega)
  unfold enc wh at *
  simp [ir68, h1, h2, h3]
theorem d32 (n : Bool) (l : List Int) (x : Int) (hl : Gd l x) : D E 57 [enc n l x] = some (.tup [enc (toldF false l x).neg (toldF false l x).abs (toldF false l x).exp, .int .i64 (toldF false l x).e]) := by
  refine wpE (F := ir57) (by kernel_rfl) (by kernel_rfl) ?_
  have h1 := d55 false l x hl
  unfold enc at *
  simp [ir57, h1]
end Go.Proofs.YtmbdbkcifmkpbaaGreatDoor.Den
end
section
set_option linter.unusedVariables false
set_option linter.unusedSimpArgs false
namespace Go.Proofs.YtmbdbkcifmkpbaaGreatDoor.Den
open Go
open Go.Proofs.YtmbdbkcifmkpbaaGreatDoor.OwnA (u64s finF signF shlF toldF normF addF cmpF subF mulF checkF Dy)
set_option maxRecDepth 10000
set_option maxHeartbeats 1000000
attribute [local simp] Ok_true Br_true Br_false rtV exec_none exec_some opV dstB dstW upd_nil upd_cons upd1_at args0_zero args0_succ args0_nil ev cellsV isDead notSelf allCell cellB shrL shr ownsL owns ownE elems frz noLst noLstL outV_ret outV_norm retV resL resV tupV nmL nm boolV isBoolV isSkV binV unV fillV chunk sizesB sizeV List.mapIdx_cons List.mapIdx_nil List.mapIdx List.mapIdx.go List.range List.range.loop List.map_cons List.map_nil Option.isSome_some Option.isSome_none Option.getD_some Option.map_some Option.bind_some Option.map_none Option.bind_none List.append_nil List.nil_append List.cons_append List.isEmpty_nil List.isEmpty_cons Bool.and_true Bool.true_and Bool.and_false Bool.false_and Bool.or_true Bool.or_false Bool.true_or Bool.false_or Bool.not_true Bool.not_false List.length_cons List.length_nil List.take List.drop List.getD_cons_zero List.getD_cons_succ List.getElem?_cons_zero List.getElem?_cons_succ List.replicate List.flatten Wp_skip Wp_exit Wp_ret Wp_kil Wp_reg Wp_dfr Wi_nil Wi_cons Wp_seq Wp_cond Wp_block seqQ_norm seqQ_exit seqQ_ret blkQ_norm blkQ_exit blkQ_ret nrQ_norm nrQ_exit nrQ_ret lpQ_norm lpQ_exit lpQ_ret outQ_norm outQ_ret rgQ_at kilR kil1 kil kilL sets List.set_cons_zero List.set_cons_succ kilR0 frzd isFz ren renL frV frQ_norm frQ_ret retFr shrF shrFL arrV1
attribute [local simp] wrap_id
def andU (a b : Int) : Int := IntKind.u64.wrap (BitVec.ofInt 64 a &&& BitVec.ofInt 64 b).toNat
def orU (a b : Int) : Int := IntKind.u64.wrap (BitVec.ofInt 64 a ||| BitVec.ofInt 64 b).toNat
def sh52 (a : Int) : Int := a.fdiv (2 ^ (min 52 64))
theorem bin_and (tb : Bool) (a b : Int) : binV tb .and (.int .u64 a) (.int .u64 b) = some (.int .u64 (andU a b)) := rfl
theorem bin_or (tb : Bool) (a b : Int) : binV tb .or (.int .u64 a) (.int .u64 b) = some (.int .u64 (orU a b)) := rfl
theorem bin_shr (tb : Bool) (a : Int) : binV tb .shr (.int .u64 a) (.int .u64 52) = some (.int .u64 (sh52 a)) := rfl
theorem bin_eql (tb : Bool) (k : IntKind) (a b : Int) : binV tb .eql (.int k a) (.int k b) = some (.bool (a == b)) := by simp
theorem bin_neq (tb : Bool) (k : IntKind) (a b : Int) : binV tb .neq (.int k a) (.int k b) = some (.bool (a != b)) := by simp
theorem bin_sub (tb : Bool) (k : IntKind) (a b : Int) : binV tb .sub (.int k a) (.int k b) = some (.int k (k.wrap (a - b))) := by simp
theorem wrapU_bd (n : Int) : 0 ≤ IntKind.u64.wrap n ∧ IntKind.u64.wrap n < 18446744073709551616 := by
  have e' : (2 : Int) ^ 64 = 18446744073709551616 := by rfl
  unfold IntKind.wrap
  simp only [IntKind.bits, IntKind.signed, Bool.false_and, e']
  rw [if_neg (by simp)]
  omega
theorem andU_2047 (a : Int) : 0 ≤ andU a 2047 ∧ andU a 2047 ≤ 2047 := by
  refine ⟨(wrapU_bd _).1, ?_⟩
  unfold andU
  have h : (BitVec.ofInt 64 a &&& BitVec.ofInt 64 2047).toNat ≤ 2047 := by
    rw [BitVec.toNat_and]
    exact Nat.le_trans Nat.and_le_right (by decide)
  have e' : (2 : Int) ^ 64 = 18446744073709551616 := by rfl
  generalize (BitVec.ofInt 64 a &&& BitVec.ofInt 64 2047).toNat = n at h
  unfold IntKind.wrap
  simp only [IntKind.bits, IntKind.signed, Bool.false_and, e']
  rw [if_neg (by simp)]
  omega
theorem d59 (a : Int) : ∃ (n : Bool) (m x e : Int), D E 81 [.int .u64 a] = some (.tup [.bool n, .int .u64 m, .int .i64 x, .int .i64 e]) ∧ 0 ≤ m ∧ m < 18446744073709551616 ∧ -2000 ≤ x ∧ x ≤ 2000 := by
  have hb := andU_2047 (sh52 a)
  generalize hE : andU (sh52 a) 2047 = ee at hb
  have w1 : IntKind.i64.wrap ee = ee := wrap_id (by omega) (by omega)
  have w2 : IntKind.i64.wrap (ee - 1075) = ee - 1075 := wrap_id (by omega) (by omega)
  by_cases h1 : ee = 2047
  · refine ⟨false, 0, 0, 23, wpE (F := ir81) (by kernel_rfl) (by kernel_rfl) ?_, by omega, by omega, by omega, by omega⟩
    simp [ir81, -binV, bin_and, bin_or, bin_shr, bin_eql, bin_neq, bin_sub, hE, w1, w2, h1]
  · by_cases h2 : ee = 0
    · refine ⟨andU a 9223372036854775808 != 0, andU a 4503599627370495, -1074, 0, wpE (F := ir81) (by kernel_rfl) (by kernel_rfl) ?_, (wrapU_bd _).1, (wrapU_bd _).2, by omega, by omega⟩
      simp [ir81, -binV, bin_and, bin_or, bin_shr, bin_eql, bin_neq, bin_sub, hE, w1, w2, h1, h2]
    · refine ⟨andU a 9223372036854775808 != 0, orU (andU a 4503599627370495) 4503599627370496, ee - 1075, 0, wpE (F := ir81) (by kernel_rfl) (by kernel_rfl) ?_, (wrapU_bd _).1, (wrapU_bd _).2, by omega, by omega⟩
      simp [ir81, -binV, bin_and, bin_or, bin_shr, bin_eql, bin_neq, bin_sub, hE, w1, w2, h1, h2]
theorem d34 (a : Int) : ∃ (n : Bool) (l : List Int) (x e : Int), D E 52 [.int .u64 a] = some (.tup [enc n l x, .int .i64 e]) ∧ Gd l x := by
  obtain ⟨n, m, x, e, h, h0, h1, h2, h3⟩ := d59 a
  by_cases he : e = 0
  · subst he
    have hg : Gd [m] x := ⟨fun y hy => by simp only [List.mem_cons, List.not_mem_nil, or_false] at hy; subst hy; exact ⟨h0, h1⟩, by simp, by omega, by omega⟩
    have h4 := d55 n [m] x hg
    refine ⟨(toldF n [m] x).neg, (toldF n [m] x).abs, (toldF n [m] x).exp, (toldF n [m] x).e, wpE (F := ir52) (by kernel_rfl) (by kernel_rfl) ?_, told_gd n [m] x hg.u⟩
    unfold enc at *
    simp at h4
    simp [ir52, h, h4]
  · refine ⟨false, [], 0, e, wpE (F := ir52) (by kernel_rfl) (by kernel_rfl) ?_, Gd0⟩
    unfold enc
    simp [ir52, h, he]
structure Num where
  n : Bool
  l : List Int
  x : Int
def encN (c : Num) : V := enc c.n c.l c.x
def GN (c : Num) : Prop := Gd c.l c.x
def zN : Num := ⟨false, [], 0⟩
theorem GN0 : GN zN := Gd0
theorem exW (a : Int) : ∃ (c : Num), (∃ e : Int, D E 52 [.int .u64 a] = some (.tup [encN c, .int .i64 e])) ∧ GN c := by
  obtain ⟨n, l, x, e, h, hg⟩ := d34 a
  exact ⟨⟨n, l, x⟩, ⟨e, h⟩, hg⟩
noncomputable def ofW (a : Int) : Num := (exW a).choose
theorem ofW_D (a : Int) : ∃ e : Int, D E 52 [.int .u64 a] = some (.tup [encN (ofW a), .int .i64 e]) := (exW a).choose_spec.1
theorem ofW_G (a : Int) : GN (ofW a) := (exW a).choose_spec.2
def numD (d : Dy) : Num := ⟨d.neg, d.abs, d.exp⟩
def addN (a b : Num) : Num := numD (addD a.n a.l a.x b.n b.l b.x)
def subN (a b : Num) : Num := numD (addD a.n a.l a.x (!b.n) b.l b.x)
def mulN (a b : Num) : Num := numD (mulD a.n a.l a.x b.n b.l b.x)
def absN (a : Num) : Num := numD (toldF false a.l a.x)
def cmpN (a b : Num) : Int := cmpD a.n a.l a.x b.n b.l b.x
theorem GN_add {a b : Num} (ha : GN a) (hb : GN b) : GN (addN a b) := told_gd _ _ _ (okS_wa (by have := lx_ok ha hb; omega) (by have := lx_ok ha hb; omega)).2
theorem GN_sub {a b : Num} (ha : GN a) (hb : GN b) : GN (subN a b) := told_gd _ _ _ (okS_wa (by have := lx_ok ha hb; omega) (by have := lx_ok ha hb; omega)).2
theorem GN_mul {a b : Num} (ha : GN a) (hb : GN b) : GN (mulN a b) := told_gd _ _ _ (OwnA.normF_u64 (mulF_ok _ _))
theorem GN_abs {a : Num} (ha : GN a) : GN (absN a) := told_gd _ _ _ ha.u
theorem c60 {a b : Num} (ha : GN a) (hb : GN b) : ∃ e : Int, D E 83 [encN a, encN b] = some (.tup [encN (addN a b), .int .i64 e]) := ⟨_, d60 _ _ _ _ _ _ ha hb⟩
theorem c41 {a b : Num} (ha : GN a) (hb : GN b) : ∃ e : Int, D E 82 [encN a, encN b] = some (.tup [encN (subN a b), .int .i64 e]) := ⟨_, d41 _ _ _ _ _ _ ha hb⟩
theorem c61 {a b : Num} (ha : GN a) (hb : GN b) : ∃ e : Int, D E 84 [encN a, encN b] = some (.tup [encN (mulN a b), .int .i64 e]) := ⟨_, d61 _ _ _ _ _ _ ha hb⟩
theorem c32 {a : Num} (ha : GN a) : ∃ e : Int, D E 57 [encN a] = some (.tup [encN (absN a), .int .i64 e]) := ⟨_, d32 _ _ _ ha⟩
theorem c33 {a b : Num} (ha : GN a) (hb : GN b) : D E 41 [encN a, encN b] = some (.tup [.int .i64 (cmpN a b), .int .i64 0]) := d33 _ _ _ _ _ _ ha hb
theorem c48 {a b : Num} (ha : GN a) (hb : GN b) : D E 53 [encN a, encN b] = some (encN (subN a b)) := by
  obtain ⟨e, h⟩ := c41 ha hb
  refine wpE (F := ir53) (by kernel_rfl) (by kernel_rfl) ?_
  unfold encN enc at *
  simp [ir53, h]
theorem c49 {a b : Num} (ha : GN a) (hb : GN b) : D E 54 [encN a, encN b] = some (encN (addN a b)) := by
  obtain ⟨e, h⟩ := c60 ha hb
  refine wpE (F := ir54) (by kernel_rfl) (by kernel_rfl) ?_
  unfold encN enc at *
  simp [ir54, h]
theorem c50 {a b : Num} (ha : GN a) (hb : GN b) : D E 55 [encN a, encN b] = some (encN (mulN a b)) := by
  obtain ⟨e, h⟩ := c61 ha hb
  refine wpE (F := ir55) (by kernel_rfl) (by kernel_rfl) ?_
  unfold encN enc at *
  simp [ir55, h]
end Go.Proofs.YtmbdbkcifmkpbaaGreatDoor.Den
end
section
set_option linter.unusedVariables false
set_option linter.unusedSimpArgs false
namespace Go.Proofs.YtmbdbkcifmkpbaaGreatDoor.Den
open Go
set_option maxRecDepth 10000
set_option maxHeartbeats 4000000
attribute [local simp] Ok_true Br_true Br_false rtV exec_none exec_some opV dstB dstW upd_nil upd_cons upd1_at args0_zero args0_succ args0_nil ev cellsV isDead notSelf allCell cellB shrL shr ownsL owns ownE elems frz noLst noLstL outV_ret outV_norm retV resL resV tupV nmL nm boolV isBoolV isSkV binV unV fillV chunk sizesB sizeV List.mapIdx_cons List.mapIdx_nil List.mapIdx List.mapIdx.go List.range List.range.loop List.map_cons List.map_nil Option.isSome_some Option.isSome_none Option.getD_some Option.map_some Option.bind_some Option.map_none Option.bind_none List.append_nil List.nil_append List.cons_append List.isEmpty_nil List.isEmpty_cons Bool.and_true Bool.true_and Bool.and_false Bool.false_and Bool.or_true Bool.or_false Bool.true_or Bool.false_or Bool.not_true Bool.not_false List.length_cons List.length_nil List.take List.drop List.getD_cons_zero List.getD_cons_succ List.getElem?_cons_zero List.getElem?_cons_succ List.replicate List.flatten Wp_skip Wp_exit Wp_ret Wp_kil Wp_reg Wp_dfr Wi_nil Wi_cons Wp_seq Wp_cond Wp_block seqQ_norm seqQ_exit seqQ_ret blkQ_norm blkQ_exit blkQ_ret nrQ_norm nrQ_exit nrQ_ret lpQ_norm lpQ_exit lpQ_ret outQ_norm outQ_ret rgQ_at kilR kil1 kil kilL sets List.set_cons_zero List.set_cons_succ kilR0 frzd isFz ren renL frV frQ_norm frQ_ret retFr shrF shrFL arrV1
attribute [local simp] wrap_id
def grd (r c : Int) (L : List Num) : V := .agg [.int .i64 r, .int .i64 c, .lst (L.map encN)]
def mat (r c : Int) (l : List Int) : V := .agg [.int .i64 r, .int .i64 c, .lst (l.map (V.int .u64))]
/-- what a list of one's own is, as it grows -/
def ownV (i : Nat) : V := if i = 0 then .nil0 else .own 0 i
def arrV (i : Nat) (sz e : Nat) (l : List V) : V := if i = 0 then .dead else .arr true sz e l
/-- as far as it is done -/
def pre (A M : List Num) : Prop := A = M.take A.length ∧ A.length ≤ M.length
theorem pre_nil (M : List Num) : pre [] M := ⟨by simp, by simp⟩
theorem pre_next {A M : List Num} (h : pre A M) (hi : A.length < M.length) : pre (A ++ [M[A.length]'hi]) M := by
  refine ⟨?_, by rw [List.length_append, List.length_singleton]; omega⟩
  rw [List.length_append, List.length_singleton, List.take_add_one, List.getElem?_eq_getElem hi, ← h.1]
  rfl
theorem pre_full {A M : List Num} (h : pre A M) (hi : ¬ A.length < M.length) : A = M := by
  have h1 := h.1
  rw [List.take_of_length_le (by omega)] at h1
  exact h1
theorem c27 (r c : Int) (l : List Int) (hl : l.length ≤ 100000) : D E 32 [mat r c l] = some (grd r c (l.map ofW)) := by
  refine wpE (F := ir32) (by kernel_rfl) (by kernel_rfl) ?_
  unfold mat grd
  simp [ir32]
  refine Wp_loopS _ _ (fun A : List Num => [(16, .int .i64 A.length), (41, ownV A.length), (45, arrV A.length 3 27 (A.map encN))]) (fun A => pre A (l.map ofW)) (fun A => l.length - A.length) [] (pre_nil _) (by simp [ownV, arrV]) ?_
  intro A hA
  by_cases hi : A.length < l.length
  · have hn : (A.length : Int) < (l.length : Int) := by omega
    have hw : IntKind.i64.wrap ((A.length : Int) + 1) = (A.length : Int) + 1 := wrap_id (by omega) (by omega)
    have hb1 : (A.length + 1) * 40 ≤ 140737488355328 := by omega
    have hb2 : A.length + 1 ≤ big := by unfold big; omega
    have hN : pre (A ++ [ofW (l[A.length]'hi)]) (l.map ofW) := by
      have := pre_next hA (by rw [List.length_map]; exact hi)
      rw [List.getElem_map] at this
      exact this
    obtain ⟨e, hd⟩ := ofW_D (l[A.length]'hi)
    by_cases h0 : A.length = 0
    · have hA0 : A = [] := List.eq_nil_of_length_eq_zero h0
      subst hA0
      have hi0 : 0 < l.length := hi
      have hn0 : (0 : Int) < (l.length : Int) := by omega
      have hd0 : D E 52 [.int .u64 (l[0]'hi0)] = some (.tup [encN (ofW (l[0]'hi0)), .int .i64 e]) := hd
      have hn1 : 1 ≤ big := by unfold big; omega
      unfold encN enc at *
      simp [ownV, arrV, hn0, hd0, hi0, hn1]
      refine nxt_i _ [ofW (l[0]'hi0)] hN (by simp; omega) ?_
      simp [ownV, arrV]
    · unfold encN enc at *
      simp [ownV, arrV, hn, hd, hw, h0, hi, hb1, hb2]
      refine nxt_i _ (A ++ [ofW (l[A.length]'hi)]) hN (by simp; omega) ?_
      simp [ownV, arrV]
  · have hn : ¬ (A.length : Int) < (l.length : Int) := by omega
    have hM := pre_full hA (by rw [List.length_map]; exact hi)
    by_cases h0 : A.length = 0
    · have hA0 : A = [] := List.eq_nil_of_length_eq_zero h0
      subst hA0
      have hl0 : l = [] := by
        cases l with
        | nil => rfl
        | cons _ _ => simp at hM
      subst hl0
      unfold encN enc at *
      simp [ownV, arrV]
    · have hm2 : l.map (encN ∘ ofW) = A.map encN := by rw [hM, List.map_map]
      unfold encN enc at *
      simp [ownV, arrV, hn, h0]
      exact hm2.symm
end Go.Proofs.YtmbdbkcifmkpbaaGreatDoor.Den
end
section
set_option linter.unusedVariables false
set_option linter.unusedSimpArgs false
namespace Go.Proofs.YtmbdbkcifmkpbaaGreatDoor.Den
open Go
set_option maxRecDepth 10000
set_option maxHeartbeats 4000000
attribute [local simp] Ok_true Br_true Br_false rtV exec_none exec_some opV dstB dstW upd_nil upd_cons upd1_at args0_zero args0_succ args0_nil ev cellsV isDead notSelf allCell cellB shrL shr ownsL owns ownE elems frz noLst noLstL outV_ret outV_norm retV resL resV tupV nmL nm boolV isBoolV isSkV binV unV fillV chunk sizesB sizeV List.mapIdx_cons List.mapIdx_nil List.mapIdx List.mapIdx.go List.range List.range.loop List.map_cons List.map_nil Option.isSome_some Option.isSome_none Option.getD_some Option.map_some Option.bind_some Option.map_none Option.bind_none List.append_nil List.nil_append List.cons_append List.isEmpty_nil List.isEmpty_cons Bool.and_true Bool.true_and Bool.and_false Bool.false_and Bool.or_true Bool.or_false Bool.true_or Bool.false_or Bool.not_true Bool.not_false List.length_cons List.length_nil List.take List.drop List.getD_cons_zero List.getD_cons_succ List.getElem?_cons_zero List.getElem?_cons_succ List.replicate List.flatten Wp_skip Wp_exit Wp_ret Wp_kil Wp_reg Wp_dfr Wi_nil Wi_cons Wp_seq Wp_cond Wp_block seqQ_norm seqQ_exit seqQ_ret blkQ_norm blkQ_exit blkQ_ret nrQ_norm nrQ_exit nrQ_ret lpQ_norm lpQ_exit lpQ_ret outQ_norm outQ_ret rgQ_at kilR kil1 kil kilL sets List.set_cons_zero List.set_cons_succ kilR0 frzd isFz ren renL frV frQ_norm frQ_ret retFr shrF shrFL arrV1
attribute [local simp] wrap_id
/-- a list of limbs, or none yet -/
def lv (q : Bool) (l : List Int) : V := if q then .nil0 else .lst (l.map (V.int .u64))
def mostP (b x : Num) : Num := if 0 < cmpN (absN x) b then absN x else b
theorem GN_mostP {b x : Num} (hb : GN b) (hx : GN x) : GN (mostP b x) := by
  unfold mostP
  split
  · exact GN_abs hx
  · exact hb
theorem GN_fold {M : List Num} (hM : ∀ a ∈ M, GN a) : ∀ b, GN b → GN (M.foldl mostP b) := by
  induction M with
  | nil => exact fun b h => h
  | cons x M ih => exact fun b h => ih (fun a ha => hM a (List.mem_cons_of_mem _ ha)) _ (GN_mostP h (hM x (List.mem_cons_self ..)))
theorem c28 (r c : Int) (M : List Num) (hM : ∀ a ∈ M, GN a) (hl : M.length ≤ 100000) : D E 35 [grd r c M] = some (encN (M.foldl mostP zN)) := by
  refine wpE (F := ir35) (by kernel_rfl) (by kernel_rfl) ?_
  unfold grd
  simp [ir35]
  refine Wp_loopS _ _ (fun s : Nat × Num × Bool => [(12, .int .i64 s.1), (38, .bool s.2.1.n), (39, lv s.2.2 s.2.1.l), (40, .int .i64 s.2.1.x)]) (fun s => s.1 ≤ M.length ∧ s.2.1 = (M.take s.1).foldl mostP zN ∧ (s.2.2 = true → s.2.1.l = [])) (fun s => M.length - s.1) (0, zN, true) ⟨by simp, by simp, by simp [zN]⟩ (by simp [lv, zN]) ?_
  rintro ⟨i, b, q⟩ ⟨hi0, hb, hq⟩
  simp only at hi0 hb hq
  have gb : GN b := by rw [hb]; exact GN_fold (fun a ha => hM a (List.mem_of_mem_take ha)) _ GN0
  by_cases hi : i < M.length
  · have hn : (i : Int) < (M.length : Int) := by omega
    have hw : IntKind.i64.wrap ((i : Int) + 1) = (i : Int) + 1 := wrap_id (by omega) (by omega)
    have gx : GN (M[i]'hi) := hM _ (List.getElem_mem hi)
    obtain ⟨e, h1⟩ := c32 gx
    have h2 := c33 (GN_abs gx) gb
    have hN : mostP b (M[i]'hi) = (M.take (i + 1)).foldl mostP zN := by
      rw [List.take_add_one, List.getElem?_eq_getElem hi, List.foldl_append, ← hb]
      rfl
    by_cases hc : 0 < cmpN (absN (M[i]'hi)) b
    · have hm : mostP b (M[i]'hi) = absN (M[i]'hi) := by unfold mostP; rw [if_pos hc]
      rw [hm] at hN
      cases q with
      | true =>
        have hq0 := hq rfl
        unfold encN enc at *
        rw [hq0] at h2
        simp at h2
        simp [lv, hn, hi, h1, h2, hw, hc]
        refine nxt_i _ (i + 1, absN (M[i]'hi), false) ⟨hi, hN, by simp⟩ (by simp; omega) ?_
        simp [lv]
      | false =>
        unfold encN enc at *
        simp [lv, hn, hi, h1, h2, hw, hc]
        refine nxt_i _ (i + 1, absN (M[i]'hi), false) ⟨hi, hN, by simp⟩ (by simp; omega) ?_
        simp [lv]
    · have hm : mostP b (M[i]'hi) = b := by unfold mostP; rw [if_neg hc]
      rw [hm] at hN
      cases q with
      | true =>
        have hq0 := hq rfl
        unfold encN enc at *
        rw [hq0] at h2
        simp at h2
        simp [lv, hn, hi, h1, h2, hw, hc]
        refine nxt_i _ (i + 1, b, true) ⟨hi, hN, hq⟩ (by simp; omega) ?_
        simp [lv]
      | false =>
        unfold encN enc at *
        simp [lv, hn, hi, h1, h2, hw, hc]
        refine nxt_i _ (i + 1, b, false) ⟨hi, hN, hq⟩ (by simp; omega) ?_
        simp [lv]
  · have hn : ¬ (i : Int) < (M.length : Int) := by omega
    rw [List.take_of_length_le (by omega)] at hb
    cases q with
    | true =>
      have hq0 := hq rfl
      unfold encN enc
      rw [← hb]
      simp [lv, hn, hq0]
    | false =>
      unfold encN enc
      rw [← hb]
      simp [lv, hn]
end Go.Proofs.YtmbdbkcifmkpbaaGreatDoor.Den
end
section
set_option linter.unusedVariables false
set_option linter.unusedSimpArgs false
namespace Go.Proofs.YtmbdbkcifmkpbaaGreatDoor.Den
open Go
set_option maxRecDepth 10000
set_option maxHeartbeats 4000000
attribute [local simp] Ok_true Br_true Br_false rtV exec_none exec_some opV dstB dstW upd_nil upd_cons upd1_at args0_zero args0_succ args0_nil ev cellsV isDead notSelf allCell cellB shrL shr ownsL owns ownE elems frz noLst noLstL outV_ret outV_norm retV resL resV tupV nmL nm boolV isBoolV isSkV binV unV fillV chunk sizesB sizeV List.mapIdx_cons List.mapIdx_nil List.mapIdx List.mapIdx.go List.range List.range.loop List.map_cons List.map_nil Option.isSome_some Option.isSome_none Option.getD_some Option.map_some Option.bind_some Option.map_none Option.bind_none List.append_nil List.nil_append List.cons_append List.isEmpty_nil List.isEmpty_cons Bool.and_true Bool.true_and Bool.and_false Bool.false_and Bool.or_true Bool.or_false Bool.true_or Bool.false_or Bool.not_true Bool.not_false List.length_cons List.length_nil List.take List.drop List.getD_cons_zero List.getD_cons_succ List.getElem?_cons_zero List.getElem?_cons_succ List.replicate List.flatten Wp_skip Wp_exit Wp_ret Wp_kil Wp_reg Wp_dfr Wi_nil Wi_cons Wp_seq Wp_cond Wp_block seqQ_norm seqQ_exit seqQ_ret blkQ_norm blkQ_exit blkQ_ret nrQ_norm nrQ_exit nrQ_ret lpQ_norm lpQ_exit lpQ_ret outQ_norm outQ_ret rgQ_at kilR kil1 kil kilL sets List.set_cons_zero List.set_cons_succ kilR0 frzd isFz ren renL frV frQ_norm frQ_ret retFr shrF shrFL arrV1
attribute [local simp] wrap_id
def gat (r c : Int) (M : List Num) (i j : Nat) : Num := if r ≤ (i : Int) then zN else M.getD (i * c.toNat + j) zN
theorem c51 (r c : Int) (M : List Num) (i j : Nat) (hc0 : 0 ≤ c) (hc : c ≤ 1000) (hi : i ≤ 1000) (hj : j ≤ 1000) (hM : (i : Int) < r → i * c.toNat + j < M.length) : D E 56 [grd r c M, .int .i64 i, .int .i64 j] = some (encN (gat r c M i j)) := by
  refine wpE (F := ir56) (by kernel_rfl) (by kernel_rfl) ?_
  unfold grd gat
  by_cases h : r ≤ (i : Int)
  · rw [if_pos h]
    have h' : (i : Int) ≥ r := h
    unfold encN enc zN
    simp [ir56, h, h']
  · rw [if_neg h]
    have hl := hM (by omega)
    have hm : ((i : Int) * c) = ((i * c.toNat : Nat) : Int) := by
      rw [Int.natCast_mul, Int.toNat_of_nonneg hc0]
    have hb : i * c.toNat ≤ 1000 * 1000 := Nat.mul_le_mul hi (by omega)
    have w1 : IntKind.i64.wrap ((i : Int) * c) = ((i * c.toNat : Nat) : Int) := by rw [hm]; exact wrap_id (by omega) (by omega)
    have w2 : IntKind.i64.wrap (((i * c.toNat : Nat) : Int) + j) = ((i * c.toNat + j : Nat) : Int) := by
      rw [wrap_id (by omega) (by omega)]
      omega
    generalize i * c.toNat = q at *
    have hg : M.getD (q + j) zN = M[q + j]'hl := by
      rw [List.getD_eq_getElem?_getD, List.getElem?_eq_getElem hl]; rfl
    have hz : (0 : Int) ≤ ((q + j : Nat) : Int) := by omega
    have ht : (((q + j : Nat) : Int)).toNat = q + j := by omega
    rw [hg]
    generalize hp : q + j = p at *
    unfold encN enc
    simp [ir56, h, w1, w2, hl]
end Go.Proofs.YtmbdbkcifmkpbaaGreatDoor.Den
end
section
set_option linter.unusedVariables false
set_option linter.unusedSimpArgs false
namespace Go.Proofs.YtmbdbkcifmkpbaaGreatDoor.Den
open Go
set_option maxRecDepth 10000
set_option maxHeartbeats 4000000
attribute [local simp] Ok_true Br_true Br_false rtV exec_none exec_some opV dstB dstW upd_nil upd_cons upd1_at args0_zero args0_succ args0_nil ev cellsV isDead notSelf allCell cellB shrL shr ownsL owns ownE elems frz noLst noLstL outV_ret outV_norm retV resL resV tupV nmL nm boolV isBoolV isSkV binV unV fillV chunk sizesB sizeV List.mapIdx_cons List.mapIdx_nil List.mapIdx List.mapIdx.go List.range List.range.loop List.map_cons List.map_nil Option.isSome_some Option.isSome_none Option.getD_some Option.map_some Option.bind_some Option.map_none Option.bind_none List.append_nil List.nil_append List.cons_append List.isEmpty_nil List.isEmpty_cons Bool.and_true Bool.true_and Bool.and_false Bool.false_and Bool.or_true Bool.or_false Bool.true_or Bool.false_or Bool.not_true Bool.not_false List.length_cons List.length_nil List.take List.drop List.getD_cons_zero List.getD_cons_succ List.getElem?_cons_zero List.getElem?_cons_succ List.replicate List.flatten Wp_skip Wp_exit Wp_ret Wp_kil Wp_reg Wp_dfr Wi_nil Wi_cons Wp_seq Wp_cond Wp_block seqQ_norm seqQ_exit seqQ_ret blkQ_norm blkQ_exit blkQ_ret nrQ_norm nrQ_exit nrQ_ret lpQ_norm lpQ_exit lpQ_ret outQ_norm outQ_ret rgQ_at kilR kil1 kil kilL sets List.set_cons_zero List.set_cons_succ kilR0 frzd isFz ren renL frV frQ_norm frQ_ret retFr shrF shrFL arrV1
attribute [local simp] wrap_id
theorem kil_ownV (vs : List Nat) (n : Nat) : kil vs [] (ownV n) = ownV n := by unfold ownV; split <;> simp
theorem kil_arrV (vs ks : List Nat) (n sz e : Nat) (l : List V) : kil vs ks (arrV n sz e l) = arrV n sz e l := by unfold arrV; split <;> simp
theorem kil_lv (vs ks : List Nat) (q : Bool) (l : List Int) : kil vs ks (lv q l) = lv q l := by unfold lv; split <;> simp
attribute [local simp] kil_ownV kil_arrV kil_lv
def dotN (g h : Nat → Num) : Nat → Num
  | 0 => zN
  | k + 1 => addN (dotN g h k) (mulN (g k) (h k))
theorem GN_dot {g h : Nat → Num} (hg : ∀ k, GN (g k)) (hh : ∀ k, GN (h k)) : ∀ k, GN (dotN g h k)
  | 0 => GN0
  | k + 1 => GN_add (GN_dot hg hh k) (GN_mul (hg k) (hh k))
theorem GN_gat {r c : Int} {M : List Num} (hM : ∀ a ∈ M, GN a) (i j : Nat) : GN (gat r c M i j) := by
  unfold gat
  split
  · exact GN0
  · rw [List.getD_eq_getElem?_getD]
    cases h : M[i * c.toNat + j]? with
    | none => exact GN0
    | some a => exact hM a (List.mem_of_getElem? h)
def rowN (f : Nat → Num) : Nat → List Num
  | 0 => []
  | m + 1 => rowN f m ++ [f m]
def prodN (f : Nat → Nat → Num) (m : Nat) : Nat → List Num
  | 0 => []
  | n + 1 => prodN f m n ++ rowN (f n) m
theorem rowN_len (f : Nat → Num) : ∀ m, (rowN f m).length = m
  | 0 => rfl
  | m + 1 => by rw [rowN, List.length_append, rowN_len f m]; rfl
theorem prodN_len (f : Nat → Nat → Num) (m : Nat) : ∀ n, (prodN f m n).length = n * m
  | 0 => by simp [prodN]
  | n + 1 => by rw [prodN, List.length_append, prodN_len f m n, rowN_len, Nat.succ_mul]
/-- the numbers that are done -/
def accN (f : Nat → Nat → Num) (m n j : Nat) : List Num := prodN f m n ++ rowN (f n) j
theorem accN_zero (f : Nat → Nat → Num) (m n : Nat) : accN f m n 0 = prodN f m n := by simp [accN, rowN]
theorem accN_full (f : Nat → Nat → Num) (m n : Nat) : accN f m n m = prodN f m (n + 1) := rfl
theorem accN_succ (f : Nat → Nat → Num) (m n j : Nat) : accN f m n (j + 1) = accN f m n j ++ [f n j] := by rw [accN, rowN, ← List.append_assoc]; rfl
theorem accN_len (f : Nat → Nat → Num) (m n j : Nat) : (accN f m n j).length = n * m + j := by rw [accN, List.length_append, prodN_len, rowN_len]
theorem idx_lt {i j n m : Nat} (hi : i < n) (hj : j < m) : i * m + j < n * m := by
  have : (i + 1) * m ≤ n * m := Nat.mul_le_mul_right m hi
  rw [Nat.succ_mul] at this
  omega
theorem c30 (r c r2 c2 : Nat) (M H : List Num) (gM : ∀ a ∈ M, GN a) (gH : ∀ a ∈ H, GN a) (hc1 : 1 ≤ c) (hr : r ≤ 64) (hc : c ≤ 64) (hr2 : r2 ≤ 64) (hc2 : c2 ≤ 64) (hM : M.length = r * c) (hH : H.length = r2 * c2) :
    D E 34 [grd r c M, grd r2 c2 H] = some (grd r c2 (prodN (fun i j => dotN (gat r c M i) (fun k => gat r2 c2 H k j) c) c2 r)) := by
  obtain ⟨f, hf⟩ : ∃ f : Nat → Nat → Num, f = fun i j => dotN (gat r c M i) (fun k => gat r2 c2 H k j) c := ⟨_, rfl⟩
  rw [← hf]
  refine wpE (F := ir34) (by kernel_rfl) (by kernel_rfl) ?_
  unfold grd
  simp [ir34]
  refine Wp_loopS _ _ (fun i : Nat => [(17, .int .i64 i), (63, ownV (prodN f c2 i).length), (67, arrV (prodN f c2 i).length 3 27 ((prodN f c2 i).map encN))]) (fun i => i ≤ r) (fun i => r - i) 0 (by omega) (by simp [ownV, arrV, prodN]) ?_
  intro i hi0
  by_cases hi : i < r
  · have hn : (i : Int) < (r : Int) := by omega
    have hw : IntKind.i64.wrap ((i : Int) + 1) = (i : Int) + 1 := wrap_id (by omega) (by omega)
    simp [hn]
    refine Wp_loopS _ _ (fun j : Nat => [(22, .int .i64 j), (63, ownV (accN f c2 i j).length), (67, arrV (accN f c2 i j).length 3 27 ((accN f c2 i j).map encN))]) (fun j => j ≤ c2) (fun j => c2 - j) 0 (by omega) (by simp [accN_zero]) ?_
    intro j hj0
    by_cases hj : j < c2
    · have hjn : (j : Int) < (c2 : Int) := by omega
      have hjw : IntKind.i64.wrap ((j : Int) + 1) = (j : Int) + 1 := wrap_id (by omega) (by omega)
      simp [hjn]
      refine Wp_loopS _ _ (fun s : Nat × Bool => [(28, .int .i64 s.1), (64, .bool (dotN (gat r c M i) (fun k => gat r2 c2 H k j) s.1).n), (65, lv s.2 (dotN (gat r c M i) (fun k => gat r2 c2 H k j) s.1).l), (66, .int .i64 (dotN (gat r c M i) (fun k => gat r2 c2 H k j) s.1).x)]) (fun s => s.1 ≤ c ∧ (s.2 = true ↔ s.1 = 0)) (fun s => c - s.1) (0, true) ⟨by simp, by simp⟩ (by simp [lv, dotN, zN]) ?_
      rintro ⟨k, q⟩ ⟨hk0, hq⟩
      simp only at hk0 hq
      by_cases hk : k < c
      · have hkn : (k : Int) < (c : Int) := by omega
        have hkw : IntKind.i64.wrap ((k : Int) + 1) = (k : Int) + 1 := wrap_id (by omega) (by omega)
        have a1 := c51 r c M i k (by omega) (by omega) (by omega) (by omega) (fun _ => by rw [hM, Int.toNat_natCast]; exact idx_lt hi hk)
        have a2 := c51 r2 c2 H k j (by omega) (by omega) (by omega) (by omega) (fun h => by rw [hH, Int.toNat_natCast]; exact idx_lt (by omega) hj)
        have a3 := c50 (GN_gat gM (r := r) (c := c) i k) (GN_gat gH (r := r2) (c := c2) k j)
        have a4 := c49 (GN_dot (fun k => GN_gat gM (r := r) (c := c) i k) (fun k => GN_gat gH (r := r2) (c := c2) k j) k) (GN_mul (GN_gat gM (r := r) (c := c) i k) (GN_gat gH (r := r2) (c := c2) k j))
        have hs : dotN (gat r c M i) (fun k => gat r2 c2 H k j) (k + 1) = addN (dotN (gat r c M i) (fun k => gat r2 c2 H k j) k) (mulN (gat r c M i k) (gat r2 c2 H k j)) := rfl
        cases q with
        | true =>
          have hk1 : k = 0 := hq.1 rfl
          subst hk1
          simp only [grd, encN, enc, dotN, zN] at a1 a2 a3 a4 hs
          simp at a1 a2 a4
          simp [hkn, hk, lv, a1, a2, a3, a4, dotN, zN]
          refine nxt_i _ ((1 : Nat), false) ⟨hk, by simp⟩ (by show c - 1 < c - 0; omega) ?_
          simp [lv, dotN, zN]
        | false =>
          simp only [grd, encN, enc] at a1 a2 a3 a4
          simp [hkn, lv, a1, a2, a3, a4, hkw]
          refine nxt_i _ (k + 1, false) ⟨hk, by simp⟩ (by simp; omega) ?_
          simp [lv, hs]
      · have hkn : ¬ (k : Int) < (c : Int) := by omega
        have hke : k = c := by omega
        have hqf : q = false := by
          cases q with
          | true => have := hq.1 rfl; omega
          | false => rfl
        rw [hke] at hkn
        rw [hke, hqf]
        have hfe : f i j = dotN (gat r c M i) (fun k => gat r2 c2 H k j) c := by rw [hf]
        rw [← hfe]
        have hln := accN_len f c2 i j
        have hle : i * c2 ≤ 64 * 64 := Nat.mul_le_mul (by omega) hc2
        obtain ⟨A, hA⟩ : ∃ A, A = accN f c2 i j := ⟨_, rfl⟩
        rw [← hA] at hln ⊢
        have hb1 : (A.length + 1) * 40 ≤ 140737488355328 := by omega
        have hb2 : A.length + 1 ≤ big := by unfold big; omega
        have hs : accN f c2 i (j + 1) = A ++ [f i j] := by rw [hA]; exact accN_succ f c2 i j
        by_cases h0 : A.length = 0
        · have hA0 : A = [] := List.eq_nil_of_length_eq_zero h0
          have hn1 : 1 ≤ big := by unfold big; omega
          rw [hA0] at hs ⊢
          simp [hkn, lv, ownV, arrV, hn1, hjw]
          refine nxt_i _ (j + 1) hj (by omega) ?_
          rw [hs]
          simp [ownV, arrV, encN, enc]
        · simp [hkn, lv, ownV, arrV, h0, hb1, hb2, hjw]
          refine nxt_i _ (j + 1) hj (by omega) ?_
          rw [hs]
          simp [ownV, arrV, encN, enc]
    · have hjn : ¬ (j : Int) < (c2 : Int) := by omega
      have hje : j = c2 := by omega
      rw [hje] at hjn ⊢
      simp [hjn, hw]
      refine nxt_i _ (i + 1) hi (by omega) ?_
      rw [← accN_full]
      simp
  · have hn : ¬ (i : Int) < (r : Int) := by omega
    have hie : i = r := by omega
    rw [hie] at hn ⊢
    by_cases h0 : (prodN f c2 r).length = 0
    · have hA0 : prodN f c2 r = [] := List.eq_nil_of_length_eq_zero h0
      rw [hA0]
      simp [hn, ownV, arrV]
    · simp [hn, ownV, arrV, h0]
end Go.Proofs.YtmbdbkcifmkpbaaGreatDoor.Den
end
section
set_option linter.unusedVariables false
set_option linter.unusedSimpArgs false
namespace Go.Proofs.YtmbdbkcifmkpbaaGreatDoor.Den
open Go
set_option maxRecDepth 10000
set_option maxHeartbeats 4000000
attribute [local simp] Ok_true Br_true Br_false rtV exec_none exec_some opV dstB dstW upd_nil upd_cons upd1_at args0_zero args0_succ args0_nil ev cellsV isDead notSelf allCell cellB shrL shr ownsL owns ownE elems frz noLst noLstL outV_ret outV_norm retV resL resV tupV nmL nm boolV isBoolV isSkV binV unV fillV chunk sizesB sizeV List.mapIdx_cons List.mapIdx_nil List.mapIdx List.mapIdx.go List.range List.range.loop List.map_cons List.map_nil Option.isSome_some Option.isSome_none Option.getD_some Option.map_some Option.bind_some Option.map_none Option.bind_none List.append_nil List.nil_append List.cons_append List.isEmpty_nil List.isEmpty_cons Bool.and_true Bool.true_and Bool.and_false Bool.false_and Bool.or_true Bool.or_false Bool.true_or Bool.false_or Bool.not_true Bool.not_false List.length_cons List.length_nil List.take List.drop List.getD_cons_zero List.getD_cons_succ List.getElem?_cons_zero List.getElem?_cons_succ List.replicate List.flatten Wp_skip Wp_exit Wp_ret Wp_kil Wp_reg Wp_dfr Wi_nil Wi_cons Wp_seq Wp_cond Wp_block seqQ_norm seqQ_exit seqQ_ret blkQ_norm blkQ_exit blkQ_ret nrQ_norm nrQ_exit nrQ_ret lpQ_norm lpQ_exit lpQ_ret outQ_norm outQ_ret rgQ_at kilR kil1 kil kilL sets List.set_cons_zero List.set_cons_succ kilR0 frzd isFz ren renL frV frQ_norm frQ_ret retFr shrF shrFL arrV1
attribute [local simp] wrap_id
theorem c29 (r c r' c' : Int) (M H : List Num) (hM : ∀ a ∈ M, GN a) (hH : ∀ a ∈ H, GN a) (hl : M.length ≤ 100000) (hh : M.length = H.length) : D E 33 [grd r c M, grd r' c' H] = some (grd r c (List.zipWith subN M H)) := by
  obtain ⟨Z, hZ⟩ : ∃ Z, Z = List.zipWith subN M H := ⟨_, rfl⟩
  have hz : Z.length = M.length := by rw [hZ, List.length_zipWith]; omega
  have hget : ∀ (i : Nat) (h1 : i < Z.length) (h2 : i < M.length) (h3 : i < H.length), Z[i]'h1 = subN (M[i]'h2) (H[i]'h3) := by
    subst hZ
    intro i h1 h2 h3
    exact List.getElem_zipWith
  rw [← hZ]
  clear hZ
  refine wpE (F := ir33) (by kernel_rfl) (by kernel_rfl) ?_
  unfold grd
  simp [ir33]
  refine Wp_loopS _ _ (fun A : List Num => [(16, .int .i64 A.length), (46, ownV A.length), (50, arrV A.length 3 27 (A.map encN))]) (fun A => pre A Z) (fun A => M.length - A.length) [] (pre_nil _) (by simp [ownV, arrV]) ?_
  intro A hA
  by_cases hi : A.length < M.length
  · have hi' : A.length < H.length := by omega
    have hn : (A.length : Int) < (M.length : Int) := by omega
    have hn' : (A.length : Int) < (H.length : Int) := by omega
    have hw : IntKind.i64.wrap ((A.length : Int) + 1) = (A.length : Int) + 1 := wrap_id (by omega) (by omega)
    have hb1 : (A.length + 1) * 40 ≤ 140737488355328 := by omega
    have hb2 : A.length + 1 ≤ big := by unfold big; omega
    have hN : pre (A ++ [subN (M[A.length]'hi) (H[A.length]'hi')]) Z := by
      have := pre_next hA (by rw [hz]; exact hi)
      rw [hget _ _ hi hi'] at this
      exact this
    have hd := c48 (hM _ (List.getElem_mem hi)) (hH _ (List.getElem_mem hi'))
    by_cases h0 : A.length = 0
    · have hA0 : A = [] := List.eq_nil_of_length_eq_zero h0
      subst hA0
      have hi0 : 0 < M.length := hi
      have hi0' : 0 < H.length := hi'
      have hn0 : (0 : Int) < (M.length : Int) := by omega
      have hn0' : (0 : Int) < (H.length : Int) := by omega
      have hd0 : D E 53 [encN (M[0]'hi0), encN (H[0]'hi0')] = some (encN (subN (M[0]'hi0) (H[0]'hi0'))) := hd
      have hn1 : 1 ≤ big := by unfold big; omega
      unfold encN enc at *
      simp [ownV, arrV, hn0, hn0', hd0, hi0, hi0', hn1]
      refine nxt_i _ [subN (M[0]'hi0) (H[0]'hi0')] hN (by simp; omega) ?_
      simp [ownV, arrV]
    · unfold encN enc at *
      simp [ownV, arrV, hn, hn', hd, hw, h0, hi, hi', hb1, hb2]
      refine nxt_i _ (A ++ [subN (M[A.length]'hi) (H[A.length]'hi')]) hN (by simp; omega) ?_
      simp [ownV, arrV]
  · have hn : ¬ (A.length : Int) < (M.length : Int) := by omega
    have hm := pre_full hA (by rw [hz]; exact hi)
    subst hm
    by_cases h0 : A.length = 0
    · have hA0 : A = [] := List.eq_nil_of_length_eq_zero h0
      have hM0 : M = [] := List.eq_nil_of_length_eq_zero (by omega)
      subst hA0
      subst hM0
      unfold encN enc at *
      simp [ownV, arrV]
    · unfold encN enc at *
      simp [ownV, arrV, hn, h0]
end Go.Proofs.YtmbdbkcifmkpbaaGreatDoor.Den
end
