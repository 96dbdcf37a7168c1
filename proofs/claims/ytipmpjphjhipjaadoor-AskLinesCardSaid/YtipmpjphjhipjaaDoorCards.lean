/-
  DERIVED. GIVEN WITH THE SEED: THE CARDS: each row of YtipmpjphjhipjaaDoorRows.lean that lists a variable, with what it lists TIED to the program's text (the seventh form; the later family's looks); each row that meets fmt, with fmt's text TOLD by the authors' own Lean function (tested against real Go, not proved from fmt's source: count such statements apart). THE CARD IS WHAT COUNTS. Prove the row's statement (the work); the ties are given (YtipmpjphjhipjaaDoorTie.lean); close each card by the builder's one call (the guide's Derived/Test/ToyasCard.lean, 'card_holds'). Laid BY PROGRAM, IN A SANDBOX (cutbox-door.mjs). By AI agents, Wed Nov 11 2026. No macro, syntax, notation, axiom, sorry.
-/
import Derived.Test.YtipmpjphjhipjaaDoorRows
import GoSem.ClaimSeven
namespace Go.Proofs.YtipmpjphjhipjaaDoor
namespace Rows

/-- THE TIED CARD OF 'repertorylaw39.AskLines'. -/
def askLinesCard : Claim7 := { stood := { row := askLinesRow, standIns := [], harness := (true, "9798f514549c7718ba994e4c442591b676c8958d2b450801a3c397f365db45c9"), looks := true }, kinds := [], alts := [], laidByText := true, laidKinds := [.data, .data, .data, .sentinel, .sentinel], laidTests := true, laidLooks := .later }
def AskLinesCardSaid : Prop := Claim7.holds Tryd.pinned (.plain (OpenSpec.ofChange askLinesSpec)) askLinesCard

/-- THE TIED CARD OF 'repertorylaw39.AskParses'. -/
def askParsesCard : Claim7 := { stood := { row := askParsesRow, standIns := [], harness := (true, "9798f514549c7718ba994e4c442591b676c8958d2b450801a3c397f365db45c9"), looks := true }, kinds := [], alts := [], laidByText := true, laidKinds := [.data, .data, .data, .sentinel, .sentinel], laidTests := true, laidLooks := .later }
def AskParsesCardSaid : Prop := Claim7.holds Tryd.pinned (.plain (OpenSpec.ofChange askParsesSpec)) askParsesCard

/-- THE SECOND FORM's CARD OF 'repertorylaw39.AskLines'. -/
def askLinesUptoCard : Claim7 := { stood := { row := askLinesUptoRow, standIns := [], harness := (true, "9798f514549c7718ba994e4c442591b676c8958d2b450801a3c397f365db45c9"), looks := true }, kinds := [], alts := [], laidByText := true, laidKinds := [.data, .data, .data, .sentinel, .sentinel], laidTests := true, laidLooks := .later }
def AskLinesUptoCardSaid : Prop := Claim7.holds Tryd.pinned (.plain (OpenSpec.upto askLinesSpec)) askLinesUptoCard

/-- THE SECOND FORM's CARD OF 'repertorylaw39.AskParses'. -/
def askParsesUptoCard : Claim7 := { stood := { row := askParsesUptoRow, standIns := [], harness := (true, "9798f514549c7718ba994e4c442591b676c8958d2b450801a3c397f365db45c9"), looks := true }, kinds := [], alts := [], laidByText := true, laidKinds := [.data, .data, .data, .sentinel, .sentinel], laidTests := true, laidLooks := .later }
def AskParsesUptoCardSaid : Prop := Claim7.holds Tryd.pinned (.plain (OpenSpec.upto askParsesSpec)) askParsesUptoCard
end Rows
end Go.Proofs.YtipmpjphjhipjaaDoor
