/-
  DERIVED. GIVEN WITH THE SEED: THE CARDS: each row of YtiknigdjmbdfgaaDoorRows.lean that lists a variable, with what it lists TIED to the program's text (the seventh form; the later family's looks); each row that meets fmt, with fmt's text TOLD by the authors' own Lean function (tested against real Go, not proved from fmt's source: count such statements apart). THE CARD IS WHAT COUNTS. Prove the row's statement (the work); the ties are given (YtiknigdjmbdfgaaDoorTie.lean); close each card by the builder's one call (the guide's Derived/Test/ToyasCard.lean, 'card_holds'). Laid BY PROGRAM, IN A SANDBOX (cutbox-door.mjs). By AI agents, Wed Nov 11 2026. No macro, syntax, notation, axiom, sorry.
-/
import Derived.Test.YtiknigdjmbdfgaaDoorRows
import GoSem.ClaimSeven
namespace Go.Proofs.YtiknigdjmbdfgaaDoor
namespace Rows

/-- THE TIED CARD OF 'vaultkeep.MmuRights'. -/
def mmuRightsCard : Claim7 := { stood := { row := mmuRightsRow, standIns := [], harness := (true, "b1dd33178a99d2670775691ad280c3b76ea28ae4b8cdfefa8df4b0b358a65a3f"), looks := false }, kinds := [], alts := [], laidByText := true, laidKinds := [.data, .data], laidTests := true, laidLooks := .later }
def MmuRightsCardSaid : Prop := Claim7.holds Tryd.pinned (.plain (OpenSpec.ofChange mmuRightsSpec)) mmuRightsCard

/-- THE TIED CARD OF 'vaultkeep.VspaceWalks'. -/
def vspaceWalksCard : Claim7 := { stood := { row := vspaceWalksRow, standIns := [], harness := (true, "b1dd33178a99d2670775691ad280c3b76ea28ae4b8cdfefa8df4b0b358a65a3f"), looks := false }, kinds := [], alts := [], laidByText := true, laidKinds := [.data, .data], laidTests := true, laidLooks := .later }
def VspaceWalksCardSaid : Prop := Claim7.holds Tryd.pinned (.plain (OpenSpec.ofChange vspaceWalksSpec)) vspaceWalksCard

/-- THE SECOND FORM's CARD OF 'vaultkeep.MmuRights'. -/
def mmuRightsUptoCard : Claim7 := { stood := { row := mmuRightsUptoRow, standIns := [], harness := (true, "b1dd33178a99d2670775691ad280c3b76ea28ae4b8cdfefa8df4b0b358a65a3f"), looks := false }, kinds := [], alts := [], laidByText := true, laidKinds := [.data, .data], laidTests := true, laidLooks := .later }
def MmuRightsUptoCardSaid : Prop := Claim7.holds Tryd.pinned (.plain (OpenSpec.upto mmuRightsSpec)) mmuRightsUptoCard

/-- THE SECOND FORM's CARD OF 'vaultkeep.VspaceWalks'. -/
def vspaceWalksUptoCard : Claim7 := { stood := { row := vspaceWalksUptoRow, standIns := [], harness := (true, "b1dd33178a99d2670775691ad280c3b76ea28ae4b8cdfefa8df4b0b358a65a3f"), looks := false }, kinds := [], alts := [], laidByText := true, laidKinds := [.data, .data], laidTests := true, laidLooks := .later }
def VspaceWalksUptoCardSaid : Prop := Claim7.holds Tryd.pinned (.plain (OpenSpec.upto vspaceWalksSpec)) vspaceWalksUptoCard
end Rows
end Go.Proofs.YtiknigdjmbdfgaaDoor
