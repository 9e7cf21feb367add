/-
  No cell of these rows narrows 'for every input' (looked for: loops, veiled, ifaces, maps, wideKeys, modest, calm, conditions, laid).
  DERIVED. THE GIVEN ROWS OF THIS SEAT. 8 by the template 'for every input the law returns true; each argument reads behind the call as it read before'; 0 by the template 'total and deterministic' (their statements: YthmakmmfbdmdfaaTotals.lean).
  GIVEN WITH THE SEED: the statements are not yours to turn. If you find one false, say at which input.
  Laid BY PROGRAM, IN A SANDBOX (cutbox-rows.mjs): the forced cells as the released guide's own fill.sh prints them over the translation a680cfce07aeab3b… (all of the seat's roots in one cut). By AI agents, Wed Nov 11 2026. No macro, syntax, notation, axiom, sorry.
-/
import Derived.Test.YthmakmmfbdmdfaaChecked
import GoSem.Claim
import GoSem.ClaimJoined
import GoSem.ClaimMapViews
import Derived.JoinedTies
import Derived.KernelRfl
namespace Go.Proofs.Ythmakmmfbdmdfaa
/- THE CELL 'sum', in the pinned program and in every row, IS THE sha256 OF THE DUMP (.gsa) THAT YthmakmmfbdmdfaaProg.lean LOADS. Nothing in Lean hashes anything: it is a label: what it is worth is what the hold of that sum in a sandbox is worth. -/
noncomputable def Try.pinned : Pinned := { name := "ythmakmmfbdmdfaa", sum := "a680cfce07aeab3bea73db99475297414c756d06e303a87adddccf2fb728ae1c", checked := Try.checked }
namespace Rows
def none {H : Type} : Left H := { results := [], args := [] }

/-- 'vernierlaw12.FcmpTells': WHATEVER THE INPUT: true; the input reads as it did. -/
def fcmpTellsSpec : ChangeSpec := { name := "fcmpTells", fn := fun _ => fun
  | [d1, d2] => { results := [.lit (.bool true)], args := [d1, d2] }
  | _ => none }
def fcmpTellsRow : OpenClaim := { program := "ythmakmmfbdmdfaa", sum := "a680cfce07aeab3bea73db99475297414c756d06e303a87adddccf2fb728ae1c", func := "vernier/vernierlaw12.FcmpTells", spec := "fcmpTells", apart := false }
def FcmpTellsSaid : Prop := fcmpTellsRow.holds Try.pinned (OpenSpec.ofChange fcmpTellsSpec)

/-- ITS FALSE NEIGHBOUR: 'it returns false'. Refute it at one input. -/
def fcmpTellsWrong : ChangeSpec := { name := "fcmpTells", fn := fun _ => fun
  | [d1, d2] => { results := [.lit (.bool false)], args := [d1, d2] }
  | _ => none }
def FcmpTellsWrongFalsely : Prop := fcmpTellsRow.holds Try.pinned (OpenSpec.ofChange fcmpTellsWrong)

/-- 'vernierlaw27.NeedThird': WHATEVER THE INPUT: true; the input reads as it did. -/
def needThirdSpec : ChangeSpec := { name := "needThird", fn := fun _ => fun
  | [d1, d2, d3, d4] => { results := [.lit (.bool true)], args := [d1, d2, d3, d4] }
  | _ => none }
def needThirdRow : OpenClaim := { program := "ythmakmmfbdmdfaa", sum := "a680cfce07aeab3bea73db99475297414c756d06e303a87adddccf2fb728ae1c", func := "vernier/vernierlaw27.NeedThird", spec := "needThird", recurses := true, apart := false }
def NeedThirdSaid : Prop := needThirdRow.holds Try.pinned (OpenSpec.ofChange needThirdSpec)

/-- ITS FALSE NEIGHBOUR: 'it returns false'. Refute it at one input. -/
def needThirdWrong : ChangeSpec := { name := "needThird", fn := fun _ => fun
  | [d1, d2, d3, d4] => { results := [.lit (.bool false)], args := [d1, d2, d3, d4] }
  | _ => none }
def NeedThirdWrongFalsely : Prop := needThirdRow.holds Try.pinned (OpenSpec.ofChange needThirdWrong)

/-- 'vernierlaw12.FcmpSigns': WHATEVER THE INPUT: true; the input reads as it did. -/
def fcmpSignsSpec : ChangeSpec := { name := "fcmpSigns", fn := fun _ => fun
  | [d1, d2] => { results := [.lit (.bool true)], args := [d1, d2] }
  | _ => none }
def fcmpSignsRow : OpenClaim := { program := "ythmakmmfbdmdfaa", sum := "a680cfce07aeab3bea73db99475297414c756d06e303a87adddccf2fb728ae1c", func := "vernier/vernierlaw12.FcmpSigns", spec := "fcmpSigns", apart := false }
def FcmpSignsSaid : Prop := fcmpSignsRow.holds Try.pinned (OpenSpec.ofChange fcmpSignsSpec)

/-- ITS FALSE NEIGHBOUR: 'it returns false'. Refute it at one input. -/
def fcmpSignsWrong : ChangeSpec := { name := "fcmpSigns", fn := fun _ => fun
  | [d1, d2] => { results := [.lit (.bool false)], args := [d1, d2] }
  | _ => none }
def FcmpSignsWrongFalsely : Prop := fcmpSignsRow.holds Try.pinned (OpenSpec.ofChange fcmpSignsWrong)

/-- 'vernierlaw12.FcmpNext': WHATEVER THE INPUT: true; the input reads as it did. -/
def fcmpNextSpec : ChangeSpec := { name := "fcmpNext", fn := fun _ => fun
  | [d1, d2] => { results := [.lit (.bool true)], args := [d1, d2] }
  | _ => none }
def fcmpNextRow : OpenClaim := { program := "ythmakmmfbdmdfaa", sum := "a680cfce07aeab3bea73db99475297414c756d06e303a87adddccf2fb728ae1c", func := "vernier/vernierlaw12.FcmpNext", spec := "fcmpNext", apart := false }
def FcmpNextSaid : Prop := fcmpNextRow.holds Try.pinned (OpenSpec.ofChange fcmpNextSpec)

/-- ITS FALSE NEIGHBOUR: 'it returns false'. Refute it at one input. -/
def fcmpNextWrong : ChangeSpec := { name := "fcmpNext", fn := fun _ => fun
  | [d1, d2] => { results := [.lit (.bool false)], args := [d1, d2] }
  | _ => none }
def FcmpNextWrongFalsely : Prop := fcmpNextRow.holds Try.pinned (OpenSpec.ofChange fcmpNextWrong)

/-- 'vernierlaw27.NeedParts': WHATEVER THE INPUT: true; the input reads as it did. -/
def needPartsSpec : ChangeSpec := { name := "needParts", fn := fun _ => fun
  | [d1, d2, d3] => { results := [.lit (.bool true)], args := [d1, d2, d3] }
  | _ => none }
def needPartsRow : OpenClaim := { program := "ythmakmmfbdmdfaa", sum := "a680cfce07aeab3bea73db99475297414c756d06e303a87adddccf2fb728ae1c", func := "vernier/vernierlaw27.NeedParts", spec := "needParts", recurses := true, apart := false }
def NeedPartsSaid : Prop := needPartsRow.holds Try.pinned (OpenSpec.ofChange needPartsSpec)

/-- ITS FALSE NEIGHBOUR: 'it returns false'. Refute it at one input. -/
def needPartsWrong : ChangeSpec := { name := "needParts", fn := fun _ => fun
  | [d1, d2, d3] => { results := [.lit (.bool false)], args := [d1, d2, d3] }
  | _ => none }
def NeedPartsWrongFalsely : Prop := needPartsRow.holds Try.pinned (OpenSpec.ofChange needPartsWrong)

/-- 'vernierlaw39.ScriptBack': WHATEVER THE INPUT: true; the input reads as it did. -/
def scriptBackSpec : ChangeSpec := { name := "scriptBack", fn := fun _ => fun
  | [d1, d2] => { results := [.lit (.bool true)], args := [d1, d2] }
  | _ => none }
def scriptBackRow : OpenClaim := { program := "ythmakmmfbdmdfaa", sum := "a680cfce07aeab3bea73db99475297414c756d06e303a87adddccf2fb728ae1c", func := "vernier/vernierlaw39.ScriptBack", spec := "scriptBack", unfollowed := true, recurses := true, apart := false }
def ScriptBackSaid : Prop := scriptBackRow.holds Try.pinned (OpenSpec.ofChange scriptBackSpec)

/-- ITS FALSE NEIGHBOUR: 'it returns false'. Refute it at one input. -/
def scriptBackWrong : ChangeSpec := { name := "scriptBack", fn := fun _ => fun
  | [d1, d2] => { results := [.lit (.bool false)], args := [d1, d2] }
  | _ => none }
def ScriptBackWrongFalsely : Prop := scriptBackRow.holds Try.pinned (OpenSpec.ofChange scriptBackWrong)

/-- 'vernierlaw39.ScriptCuts': WHATEVER THE INPUT: true; the input reads as it did. -/
def scriptCutsSpec : ChangeSpec := { name := "scriptCuts", fn := fun _ => fun
  | [d1, d2] => { results := [.lit (.bool true)], args := [d1, d2] }
  | _ => none }
def scriptCutsRow : OpenClaim := { program := "ythmakmmfbdmdfaa", sum := "a680cfce07aeab3bea73db99475297414c756d06e303a87adddccf2fb728ae1c", func := "vernier/vernierlaw39.ScriptCuts", spec := "scriptCuts", unfollowed := true, recurses := true, apart := false }
def ScriptCutsSaid : Prop := scriptCutsRow.holds Try.pinned (OpenSpec.ofChange scriptCutsSpec)

/-- ITS FALSE NEIGHBOUR: 'it returns false'. Refute it at one input. -/
def scriptCutsWrong : ChangeSpec := { name := "scriptCuts", fn := fun _ => fun
  | [d1, d2] => { results := [.lit (.bool false)], args := [d1, d2] }
  | _ => none }
def ScriptCutsWrongFalsely : Prop := scriptCutsRow.holds Try.pinned (OpenSpec.ofChange scriptCutsWrong)

/-- 'vernierlaw27.NeedTells': WHATEVER THE INPUT: true; the input reads as it did. -/
def needTellsSpec : ChangeSpec := { name := "needTells", fn := fun _ => fun
  | [d1, d2, d3, d4] => { results := [.lit (.bool true)], args := [d1, d2, d3, d4] }
  | _ => none }
def needTellsRow : OpenClaim := { program := "ythmakmmfbdmdfaa", sum := "a680cfce07aeab3bea73db99475297414c756d06e303a87adddccf2fb728ae1c", func := "vernier/vernierlaw27.NeedTells", spec := "needTells", recurses := true, apart := false }
def NeedTellsSaid : Prop := needTellsRow.holds Try.pinned (OpenSpec.ofChange needTellsSpec)

/-- ITS FALSE NEIGHBOUR: 'it returns false'. Refute it at one input. -/
def needTellsWrong : ChangeSpec := { name := "needTells", fn := fun _ => fun
  | [d1, d2, d3, d4] => { results := [.lit (.bool false)], args := [d1, d2, d3, d4] }
  | _ => none }
def NeedTellsWrongFalsely : Prop := needTellsRow.holds Try.pinned (OpenSpec.ofChange needTellsWrong)

/- THE SECOND FORM. 'bulk': how many values and letters a reading holds, each counted each time it is reached (what is shared counts as often as it is met; a slice's spare places count too). A statement '..UptoSaid' is the law's where the arguments, and the package variables that the reading takes, are together of bulk at most 1048576: NARROWER than '..Said'. Prove '..Said' where nothing that the law and all that it calls make is longer than what came in: it says more and counts as full. Else prove '..UptoSaid'. A law counts once. -/
mutual
def uptoBulk {H : Type} : DataW H → Nat
  | .lit (.string bytes) => bytes.length + 1
  | .lit _ => 1
  | .nil => 1
  | .ptr d => uptoBulk d + 1
  | .slice elems spare => uptoBulkAll elems + uptoBulkAll spare + 1
  | .agg parts => uptoBulkAll parts + 1
  | .iface _ d => uptoBulk d + 1
  | .map entries => uptoBulkEntries entries + 1
  | .held _ => 1
def uptoBulkAll {H : Type} : List (DataW H) → Nat
  | [] => 0
  | d :: r => uptoBulk d + uptoBulkAll r
def uptoBulkEntries {H : Type} : List (Lit × DataW H) → Nat
  | [] => 0
  | x :: r => uptoBulkEntry x + uptoBulkEntries r
def uptoBulkEntry {H : Type} : Lit × DataW H → Nat
  | (.string bytes, d) => bytes.length + uptoBulk d + 1
  | (_, d) => uptoBulk d + 1
 end
def uptoSmall : (H : Type) → List (DataW H) → Bool := fun _ ds => decide (uptoBulkAll ds ≤ 1048576)
def OpenSpec.upto (s : _root_.Go.ChangeSpec) : _root_.Go.OpenSpec := { _root_.Go.OpenSpec.ofChange s with cond := some uptoSmall }

/-- 'vernierlaw12.FcmpTells', WHERE WHAT IT READS IS OF BULK AT MOST 1048576: true; the input reads as it did. -/
def fcmpTellsUptoRow : OpenClaim := { program := "ythmakmmfbdmdfaa", sum := "a680cfce07aeab3bea73db99475297414c756d06e303a87adddccf2fb728ae1c", func := "vernier/vernierlaw12.FcmpTells", spec := "fcmpTells", apart := false, narrowed := true }
def FcmpTellsUptoSaid : Prop := fcmpTellsUptoRow.holds Try.pinned (OpenSpec.upto fcmpTellsSpec)

/-- 'vernierlaw27.NeedThird', WHERE WHAT IT READS IS OF BULK AT MOST 1048576: true; the input reads as it did. -/
def needThirdUptoRow : OpenClaim := { program := "ythmakmmfbdmdfaa", sum := "a680cfce07aeab3bea73db99475297414c756d06e303a87adddccf2fb728ae1c", func := "vernier/vernierlaw27.NeedThird", spec := "needThird", recurses := true, apart := false, narrowed := true }
def NeedThirdUptoSaid : Prop := needThirdUptoRow.holds Try.pinned (OpenSpec.upto needThirdSpec)

/-- 'vernierlaw12.FcmpSigns', WHERE WHAT IT READS IS OF BULK AT MOST 1048576: true; the input reads as it did. -/
def fcmpSignsUptoRow : OpenClaim := { program := "ythmakmmfbdmdfaa", sum := "a680cfce07aeab3bea73db99475297414c756d06e303a87adddccf2fb728ae1c", func := "vernier/vernierlaw12.FcmpSigns", spec := "fcmpSigns", apart := false, narrowed := true }
def FcmpSignsUptoSaid : Prop := fcmpSignsUptoRow.holds Try.pinned (OpenSpec.upto fcmpSignsSpec)

/-- 'vernierlaw12.FcmpNext', WHERE WHAT IT READS IS OF BULK AT MOST 1048576: true; the input reads as it did. -/
def fcmpNextUptoRow : OpenClaim := { program := "ythmakmmfbdmdfaa", sum := "a680cfce07aeab3bea73db99475297414c756d06e303a87adddccf2fb728ae1c", func := "vernier/vernierlaw12.FcmpNext", spec := "fcmpNext", apart := false, narrowed := true }
def FcmpNextUptoSaid : Prop := fcmpNextUptoRow.holds Try.pinned (OpenSpec.upto fcmpNextSpec)

/-- 'vernierlaw27.NeedParts', WHERE WHAT IT READS IS OF BULK AT MOST 1048576: true; the input reads as it did. -/
def needPartsUptoRow : OpenClaim := { program := "ythmakmmfbdmdfaa", sum := "a680cfce07aeab3bea73db99475297414c756d06e303a87adddccf2fb728ae1c", func := "vernier/vernierlaw27.NeedParts", spec := "needParts", recurses := true, apart := false, narrowed := true }
def NeedPartsUptoSaid : Prop := needPartsUptoRow.holds Try.pinned (OpenSpec.upto needPartsSpec)

/-- 'vernierlaw39.ScriptBack', WHERE WHAT IT READS IS OF BULK AT MOST 1048576: true; the input reads as it did. -/
def scriptBackUptoRow : OpenClaim := { program := "ythmakmmfbdmdfaa", sum := "a680cfce07aeab3bea73db99475297414c756d06e303a87adddccf2fb728ae1c", func := "vernier/vernierlaw39.ScriptBack", spec := "scriptBack", unfollowed := true, recurses := true, apart := false, narrowed := true }
def ScriptBackUptoSaid : Prop := scriptBackUptoRow.holds Try.pinned (OpenSpec.upto scriptBackSpec)

/-- 'vernierlaw39.ScriptCuts', WHERE WHAT IT READS IS OF BULK AT MOST 1048576: true; the input reads as it did. -/
def scriptCutsUptoRow : OpenClaim := { program := "ythmakmmfbdmdfaa", sum := "a680cfce07aeab3bea73db99475297414c756d06e303a87adddccf2fb728ae1c", func := "vernier/vernierlaw39.ScriptCuts", spec := "scriptCuts", unfollowed := true, recurses := true, apart := false, narrowed := true }
def ScriptCutsUptoSaid : Prop := scriptCutsUptoRow.holds Try.pinned (OpenSpec.upto scriptCutsSpec)

/-- 'vernierlaw27.NeedTells', WHERE WHAT IT READS IS OF BULK AT MOST 1048576: true; the input reads as it did. -/
def needTellsUptoRow : OpenClaim := { program := "ythmakmmfbdmdfaa", sum := "a680cfce07aeab3bea73db99475297414c756d06e303a87adddccf2fb728ae1c", func := "vernier/vernierlaw27.NeedTells", spec := "needTells", recurses := true, apart := false, narrowed := true }
def NeedTellsUptoSaid : Prop := needTellsUptoRow.holds Try.pinned (OpenSpec.upto needTellsSpec)

end Rows
end Go.Proofs.Ythmakmmfbdmdfaa
