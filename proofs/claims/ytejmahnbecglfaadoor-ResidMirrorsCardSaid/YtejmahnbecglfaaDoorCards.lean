/-
  DERIVED. GIVEN WITH THE SEED: THE CARDS: each row of YtejmahnbecglfaaDoorRows.lean that lists a variable, with what it lists TIED to the program's text (the seventh form; the later family's looks); each row that meets fmt, with fmt's text TOLD by the authors' own Lean function (tested against real Go, not proved from fmt's source: count such statements apart). THE CARD IS WHAT COUNTS. Prove the row's statement (the work); the ties are given (YtejmahnbecglfaaDoorTie.lean); close each card by the builder's one call (the guide's Derived/Test/ToyasCard.lean, 'card_holds'). Laid BY PROGRAM, IN A SANDBOX (cutbox-door.mjs). By AI agents, Wed Nov 11 2026. No macro, syntax, notation, axiom, sorry.
-/
import Derived.Test.YtejmahnbecglfaaDoorRows
import GoSem.ClaimSeven
namespace Go.Proofs.YtejmahnbecglfaaDoor
namespace Rows

/-- THE TIED CARD OF 'vernierlaw35.ResidTells'. -/
def residTellsCard : Claim7 := { stood := { row := residTellsRow, standIns := [], harness := (true, "0adb3f05bb325816228806cf1c65ff9459e0c938cd5ff866a2157e904e66acbb"), looks := false }, kinds := [], alts := [], laidByText := true, laidKinds := [.data], laidTests := true, laidLooks := .later }
def ResidTellsCardSaid : Prop := Claim7.holds Tryd.pinned (.plain (OpenSpec.ofChange residTellsSpec)) residTellsCard

/-- THE TIED CARD OF 'vernierlaw35.ResidMirrors'. -/
def residMirrorsCard : Claim7 := { stood := { row := residMirrorsRow, standIns := [], harness := (true, "0adb3f05bb325816228806cf1c65ff9459e0c938cd5ff866a2157e904e66acbb"), looks := false }, kinds := [], alts := [], laidByText := true, laidKinds := [.data], laidTests := true, laidLooks := .later }
def ResidMirrorsCardSaid : Prop := Claim7.holds Tryd.pinned (.plain (OpenSpec.ofChange residMirrorsSpec)) residMirrorsCard

/-- THE TIED CARD OF 'vernierlaw35.ResidFactors'. -/
def residFactorsCard : Claim7 := { stood := { row := residFactorsRow, standIns := [], harness := (true, "0adb3f05bb325816228806cf1c65ff9459e0c938cd5ff866a2157e904e66acbb"), looks := false }, kinds := [], alts := [], laidByText := true, laidKinds := [.data], laidTests := true, laidLooks := .later }
def ResidFactorsCardSaid : Prop := Claim7.holds Tryd.pinned (.plain (OpenSpec.ofChange residFactorsSpec)) residFactorsCard

/-- THE SECOND FORM's CARD OF 'vernierlaw35.ResidTells'. -/
def residTellsUptoCard : Claim7 := { stood := { row := residTellsUptoRow, standIns := [], harness := (true, "0adb3f05bb325816228806cf1c65ff9459e0c938cd5ff866a2157e904e66acbb"), looks := false }, kinds := [], alts := [], laidByText := true, laidKinds := [.data], laidTests := true, laidLooks := .later }
def ResidTellsUptoCardSaid : Prop := Claim7.holds Tryd.pinned (.plain (OpenSpec.upto residTellsSpec)) residTellsUptoCard

/-- THE SECOND FORM's CARD OF 'vernierlaw35.ResidMirrors'. -/
def residMirrorsUptoCard : Claim7 := { stood := { row := residMirrorsUptoRow, standIns := [], harness := (true, "0adb3f05bb325816228806cf1c65ff9459e0c938cd5ff866a2157e904e66acbb"), looks := false }, kinds := [], alts := [], laidByText := true, laidKinds := [.data], laidTests := true, laidLooks := .later }
def ResidMirrorsUptoCardSaid : Prop := Claim7.holds Tryd.pinned (.plain (OpenSpec.upto residMirrorsSpec)) residMirrorsUptoCard

/-- THE SECOND FORM's CARD OF 'vernierlaw35.ResidFactors'. -/
def residFactorsUptoCard : Claim7 := { stood := { row := residFactorsUptoRow, standIns := [], harness := (true, "0adb3f05bb325816228806cf1c65ff9459e0c938cd5ff866a2157e904e66acbb"), looks := false }, kinds := [], alts := [], laidByText := true, laidKinds := [.data], laidTests := true, laidLooks := .later }
def ResidFactorsUptoCardSaid : Prop := Claim7.holds Tryd.pinned (.plain (OpenSpec.upto residFactorsSpec)) residFactorsUptoCard
end Rows
end Go.Proofs.YtejmahnbecglfaaDoor
