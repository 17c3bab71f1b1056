/-
  DERIVED. GIVEN WITH THE SEED: THE CARDS: each row of YtdlddbclcmecjaaDoorRows.lean that lists a variable, with what it lists TIED to the program's text (the seventh form; the later family's looks); each row that meets fmt, with fmt's text TOLD by the authors' own Lean function (tested against real Go, not proved from fmt's source: count such statements apart). THE CARD IS WHAT COUNTS. Prove the row's statement (the work); the ties are given (YtdlddbclcmecjaaDoorTie.lean); close each card by the builder's one call (the guide's Derived/Test/ToyasCard.lean, 'card_holds'). Laid BY PROGRAM, IN A SANDBOX (cutbox-door.mjs). By AI agents, Wed Nov 11 2026. No macro, syntax, notation, axiom, sorry.
-/
import Derived.Test.YtdlddbclcmecjaaDoorRows
import GoSem.ClaimSeven
namespace Go.Proofs.YtdlddbclcmecjaaDoor
namespace Rows

/-- THE TIED CARD OF 'slopelaw1.NatMay'. -/
def natMayCard : Claim7 := { stood := { row := natMayRow, standIns := [], harness := (true, "8b386a42a85a56c9930738a19965b5558812c1808578baaf654b7a7d3f5db6b6"), looks := false }, kinds := [], alts := [], laidByText := true, laidKinds := [.data], laidTests := true, laidLooks := .later }
def NatMayCardSaid : Prop := Claim7.holds Tryd.pinned (.plain (OpenSpec.ofChange natMaySpec)) natMayCard

/-- THE SECOND FORM's CARD OF 'slopelaw1.NatMay'. -/
def natMayUptoCard : Claim7 := { stood := { row := natMayUptoRow, standIns := [], harness := (true, "8b386a42a85a56c9930738a19965b5558812c1808578baaf654b7a7d3f5db6b6"), looks := false }, kinds := [], alts := [], laidByText := true, laidKinds := [.data], laidTests := true, laidLooks := .later }
def NatMayUptoCardSaid : Prop := Claim7.holds Tryd.pinned (.plain (OpenSpec.upto natMaySpec)) natMayUptoCard
end Rows
end Go.Proofs.YtdlddbclcmecjaaDoor
