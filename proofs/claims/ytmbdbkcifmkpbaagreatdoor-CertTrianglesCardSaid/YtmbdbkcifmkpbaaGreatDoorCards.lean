/-
  DERIVED. GIVEN WITH THE SEED: THE CARDS: each row of YtmbdbkcifmkpbaaGreatDoorRows.lean that lists a variable, with what it lists TIED to the program's text (the seventh form; the later family's looks); each row that meets fmt, with fmt's text TOLD by the authors' own Lean function (tested against real Go, not proved from fmt's source: count such statements apart). THE CARD IS WHAT COUNTS. Prove the row's statement (the work); the ties are given (YtmbdbkcifmkpbaaGreatDoorTie.lean); close each card by the builder's one call (the guide's Derived/Test/ToyasCard.lean, 'card_holds'). Laid BY PROGRAM, IN A SANDBOX (cutbox-door.mjs). By AI agents, Wed Nov 11 2026. No macro, syntax, notation, axiom, sorry.
-/
import Derived.Test.YtmbdbkcifmkpbaaGreatDoorRows
import GoSem.ClaimSeven
namespace Go.Proofs.YtmbdbkcifmkpbaaGreatDoor
namespace Rows

/-- THE TIED CARD OF 'vernierlaw36.CertTriangles'. -/
def certTrianglesCard : Claim7 := { stood := { row := certTrianglesRow, standIns := [], harness := (true, "e3a8501e035acb7551d5f1bb2c3c3f01069f45c50b91df51664097b526b35d30"), looks := true }, kinds := [], alts := [], laidByText := true, laidKinds := [.data], laidTests := true, laidLooks := .later }
def CertTrianglesCardSaid : Prop := Claim7.holds Tryz.pinned (.plain (OpenSpec.ofChange certTrianglesSpec)) certTrianglesCard

/-- THE TIED CARD OF 'vernierlaw36.CertTells'. -/
def certTellsCard : Claim7 := { stood := { row := certTellsRow, standIns := [], harness := (true, "e3a8501e035acb7551d5f1bb2c3c3f01069f45c50b91df51664097b526b35d30"), looks := true }, kinds := [], alts := [], laidByText := true, laidKinds := [.data], laidTests := true, laidLooks := .later }
def CertTellsCardSaid : Prop := Claim7.holds Tryz.pinned (.plain (OpenSpec.ofChange certTellsSpec)) certTellsCard

/-- THE SECOND FORM's CARD OF 'vernierlaw36.CertTriangles'. -/
def certTrianglesUptoCard : Claim7 := { stood := { row := certTrianglesUptoRow, standIns := [], harness := (true, "e3a8501e035acb7551d5f1bb2c3c3f01069f45c50b91df51664097b526b35d30"), looks := true }, kinds := [], alts := [], laidByText := true, laidKinds := [.data], laidTests := true, laidLooks := .later }
def CertTrianglesUptoCardSaid : Prop := Claim7.holds Tryz.pinned (.plain (OpenSpec.upto certTrianglesSpec)) certTrianglesUptoCard

/-- THE SECOND FORM's CARD OF 'vernierlaw36.CertTells'. -/
def certTellsUptoCard : Claim7 := { stood := { row := certTellsUptoRow, standIns := [], harness := (true, "e3a8501e035acb7551d5f1bb2c3c3f01069f45c50b91df51664097b526b35d30"), looks := true }, kinds := [], alts := [], laidByText := true, laidKinds := [.data], laidTests := true, laidLooks := .later }
def CertTellsUptoCardSaid : Prop := Claim7.holds Tryz.pinned (.plain (OpenSpec.upto certTellsSpec)) certTellsUptoCard
end Rows
end Go.Proofs.YtmbdbkcifmkpbaaGreatDoor
