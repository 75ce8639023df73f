/-
  DERIVED. GIVEN WITH THE SEED: THE CARDS: each row of YtiokikiombhcnaaDoorRows.lean that lists a variable, with what it lists TIED to the program's text (the seventh form; the later family's looks); each row that meets fmt, with fmt's text TOLD by the authors' own Lean function (tested against real Go, not proved from fmt's source: count such statements apart). THE CARD IS WHAT COUNTS. Prove the row's statement (the work); the ties are given (YtiokikiombhcnaaDoorTie.lean); close each card by the builder's one call (the guide's Derived/Test/ToyasCard.lean, 'card_holds'). Laid BY PROGRAM, IN A SANDBOX (cutbox-door.mjs). By AI agents, Wed Nov 11 2026. No macro, syntax, notation, axiom, sorry.
-/
import Derived.Test.YtiokikiombhcnaaDoorRows
import GoSem.ClaimSeven
namespace Go.Proofs.YtiokikiombhcnaaDoor
namespace Rows

/-- THE TIED CARD OF 'braidworklaw11.DrawAll'. -/
def drawAllCard : Claim7 := { stood := { row := drawAllRow, standIns := [], harness := (true, "06338c18b5393dd13b60c4ef362cdcc68ed5ab2bb5a724d1576700f52bf2ee6e"), looks := false }, kinds := [], alts := [], laidByText := true, laidKinds := [.data, .pinned], laidTests := true, laidLooks := .later }
def DrawAllCardSaid : Prop := Claim7.holds Tryd.pinned (.plain (OpenSpec.ofChange drawAllSpec)) drawAllCard

/-- THE SECOND FORM's CARD OF 'braidworklaw11.DrawAll'. -/
def drawAllUptoCard : Claim7 := { stood := { row := drawAllUptoRow, standIns := [], harness := (true, "06338c18b5393dd13b60c4ef362cdcc68ed5ab2bb5a724d1576700f52bf2ee6e"), looks := false }, kinds := [], alts := [], laidByText := true, laidKinds := [.data, .pinned], laidTests := true, laidLooks := .later }
def DrawAllUptoCardSaid : Prop := Claim7.holds Tryd.pinned (.plain (OpenSpec.upto drawAllSpec)) drawAllUptoCard
end Rows
end Go.Proofs.YtiokikiombhcnaaDoor
