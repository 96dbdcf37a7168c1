/-
  DERIVED. GIVEN WITH THE SEED: THE CARDS: each row of YtljnfejcdadjpaaDoorRows.lean that lists a variable, with what it lists TIED to the program's text (the seventh form; the later family's looks); each row that meets fmt, with fmt's text TOLD by the authors' own Lean function (tested against real Go, not proved from fmt's source: count such statements apart). THE CARD IS WHAT COUNTS. Prove the row's statement (the work); the ties are given (YtljnfejcdadjpaaDoorTie.lean); close each card by the builder's one call (the guide's Derived/Test/ToyasCard.lean, 'card_holds'). Laid BY PROGRAM, IN A SANDBOX (cutbox-door.mjs). By AI agents, Wed Nov 11 2026. No macro, syntax, notation, axiom, sorry.
-/
import Derived.Test.YtljnfejcdadjpaaDoorRows
import GoSem.ClaimSeven
namespace Go.Proofs.YtljnfejcdadjpaaDoor
namespace Rows

/-- THE TIED CARD OF 'repertorylaw38.ErrsParses'. -/
def errsParsesCard : Claim7 := { stood := { row := errsParsesRow, standIns := [], harness := (true, "a10a97d168170446a4d5f38569f01b2e4ed1468ef45ca35d515e7e2d0a26eb84"), looks := false }, kinds := [], alts := [], laidByText := true, laidKinds := [.data, .data, .data], laidTests := true, laidLooks := .later }
def ErrsParsesCardSaid : Prop := Claim7.holds Tryd.pinned (.plain (OpenSpec.ofChange errsParsesSpec)) errsParsesCard

/-- THE TIED CARD OF 'repertorylaw38.ErrsFirst'. -/
def errsFirstCard : Claim7 := { stood := { row := errsFirstRow, standIns := [], harness := (true, "a10a97d168170446a4d5f38569f01b2e4ed1468ef45ca35d515e7e2d0a26eb84"), looks := false }, kinds := [], alts := [], laidByText := true, laidKinds := [.data, .data, .data], laidTests := true, laidLooks := .later }
def ErrsFirstCardSaid : Prop := Claim7.holds Tryd.pinned (.plain (OpenSpec.ofChange errsFirstSpec)) errsFirstCard

/-- THE TIED CARD OF 'repertorylaw38.ErrsNames'. -/
def errsNamesCard : Claim7 := { stood := { row := errsNamesRow, standIns := [], harness := (true, "a10a97d168170446a4d5f38569f01b2e4ed1468ef45ca35d515e7e2d0a26eb84"), looks := false }, kinds := [], alts := [], laidByText := true, laidKinds := [.data, .data, .data], laidTests := true, laidLooks := .later }
def ErrsNamesCardSaid : Prop := Claim7.holds Tryd.pinned (.plain (OpenSpec.ofChange errsNamesSpec)) errsNamesCard

/-- THE SECOND FORM's CARD OF 'repertorylaw38.ErrsParses'. -/
def errsParsesUptoCard : Claim7 := { stood := { row := errsParsesUptoRow, standIns := [], harness := (true, "a10a97d168170446a4d5f38569f01b2e4ed1468ef45ca35d515e7e2d0a26eb84"), looks := false }, kinds := [], alts := [], laidByText := true, laidKinds := [.data, .data, .data], laidTests := true, laidLooks := .later }
def ErrsParsesUptoCardSaid : Prop := Claim7.holds Tryd.pinned (.plain (OpenSpec.upto errsParsesSpec)) errsParsesUptoCard

/-- THE SECOND FORM's CARD OF 'repertorylaw38.ErrsFirst'. -/
def errsFirstUptoCard : Claim7 := { stood := { row := errsFirstUptoRow, standIns := [], harness := (true, "a10a97d168170446a4d5f38569f01b2e4ed1468ef45ca35d515e7e2d0a26eb84"), looks := false }, kinds := [], alts := [], laidByText := true, laidKinds := [.data, .data, .data], laidTests := true, laidLooks := .later }
def ErrsFirstUptoCardSaid : Prop := Claim7.holds Tryd.pinned (.plain (OpenSpec.upto errsFirstSpec)) errsFirstUptoCard

/-- THE SECOND FORM's CARD OF 'repertorylaw38.ErrsNames'. -/
def errsNamesUptoCard : Claim7 := { stood := { row := errsNamesUptoRow, standIns := [], harness := (true, "a10a97d168170446a4d5f38569f01b2e4ed1468ef45ca35d515e7e2d0a26eb84"), looks := false }, kinds := [], alts := [], laidByText := true, laidKinds := [.data, .data, .data], laidTests := true, laidLooks := .later }
def ErrsNamesUptoCardSaid : Prop := Claim7.holds Tryd.pinned (.plain (OpenSpec.upto errsNamesSpec)) errsNamesUptoCard
end Rows
end Go.Proofs.YtljnfejcdadjpaaDoor
