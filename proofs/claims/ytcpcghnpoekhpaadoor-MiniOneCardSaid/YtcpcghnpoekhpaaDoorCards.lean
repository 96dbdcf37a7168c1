/-
  DERIVED. GIVEN WITH THE SEED: THE CARDS: each row of YtcpcghnpoekhpaaDoorRows.lean that lists a variable, with what it lists TIED to the program's text (the seventh form; the later family's looks); each row that meets fmt, with fmt's text TOLD by the authors' own Lean function (tested against real Go, not proved from fmt's source: count such statements apart). THE CARD IS WHAT COUNTS. Prove the row's statement (the work); the ties are given (YtcpcghnpoekhpaaDoorTie.lean); close each card by the builder's one call (the guide's Derived/Test/ToyasCard.lean, 'card_holds'). Laid BY PROGRAM, IN A SANDBOX (cutbox-door.mjs). By AI agents, Wed Nov 11 2026. No macro, syntax, notation, axiom, sorry.
-/
import Derived.Test.YtcpcghnpoekhpaaDoorRows
import GoSem.ClaimSeven
namespace Go.Proofs.YtcpcghnpoekhpaaDoor
namespace Rows

/-- THE TIED CARD OF 'repertorylaw25.MiniSame'. -/
def miniSameCard : Claim7 := { stood := { row := miniSameRow, standIns := [], harness := (true, "6a223df969358f4701f8db5bfa90f5a1bd3bc0aae09dfa481a69a86f43958853"), looks := false }, kinds := [], alts := [], laidByText := true, laidKinds := [.data, .data, .data], laidTests := true, laidLooks := .later }
def MiniSameCardSaid : Prop := Claim7.holds Tryd.pinned (.plain (OpenSpec.ofChange miniSameSpec)) miniSameCard

/-- THE TIED CARD OF 'repertorylaw25.MiniLeast'. -/
def miniLeastCard : Claim7 := { stood := { row := miniLeastRow, standIns := [], harness := (true, "6a223df969358f4701f8db5bfa90f5a1bd3bc0aae09dfa481a69a86f43958853"), looks := false }, kinds := [], alts := [], laidByText := true, laidKinds := [.data, .data, .data], laidTests := true, laidLooks := .later }
def MiniLeastCardSaid : Prop := Claim7.holds Tryd.pinned (.plain (OpenSpec.ofChange miniLeastSpec)) miniLeastCard

/-- THE TIED CARD OF 'repertorylaw25.MiniOne'. -/
def miniOneCard : Claim7 := { stood := { row := miniOneRow, standIns := [], harness := (true, "6a223df969358f4701f8db5bfa90f5a1bd3bc0aae09dfa481a69a86f43958853"), looks := false }, kinds := [], alts := [], laidByText := true, laidKinds := [.data, .data, .data], laidTests := true, laidLooks := .later }
def MiniOneCardSaid : Prop := Claim7.holds Tryd.pinned (.plain (OpenSpec.ofChange miniOneSpec)) miniOneCard

/-- THE TIED CARD OF 'repertorylaw25.MiniUseful'. -/
def miniUsefulCard : Claim7 := { stood := { row := miniUsefulRow, standIns := [], harness := (true, "6a223df969358f4701f8db5bfa90f5a1bd3bc0aae09dfa481a69a86f43958853"), looks := false }, kinds := [], alts := [], laidByText := true, laidKinds := [.data, .data, .data], laidTests := true, laidLooks := .later }
def MiniUsefulCardSaid : Prop := Claim7.holds Tryd.pinned (.plain (OpenSpec.ofChange miniUsefulSpec)) miniUsefulCard

/-- THE SECOND FORM's CARD OF 'repertorylaw25.MiniSame'. -/
def miniSameUptoCard : Claim7 := { stood := { row := miniSameUptoRow, standIns := [], harness := (true, "6a223df969358f4701f8db5bfa90f5a1bd3bc0aae09dfa481a69a86f43958853"), looks := false }, kinds := [], alts := [], laidByText := true, laidKinds := [.data, .data, .data], laidTests := true, laidLooks := .later }
def MiniSameUptoCardSaid : Prop := Claim7.holds Tryd.pinned (.plain (OpenSpec.upto miniSameSpec)) miniSameUptoCard

/-- THE SECOND FORM's CARD OF 'repertorylaw25.MiniLeast'. -/
def miniLeastUptoCard : Claim7 := { stood := { row := miniLeastUptoRow, standIns := [], harness := (true, "6a223df969358f4701f8db5bfa90f5a1bd3bc0aae09dfa481a69a86f43958853"), looks := false }, kinds := [], alts := [], laidByText := true, laidKinds := [.data, .data, .data], laidTests := true, laidLooks := .later }
def MiniLeastUptoCardSaid : Prop := Claim7.holds Tryd.pinned (.plain (OpenSpec.upto miniLeastSpec)) miniLeastUptoCard

/-- THE SECOND FORM's CARD OF 'repertorylaw25.MiniOne'. -/
def miniOneUptoCard : Claim7 := { stood := { row := miniOneUptoRow, standIns := [], harness := (true, "6a223df969358f4701f8db5bfa90f5a1bd3bc0aae09dfa481a69a86f43958853"), looks := false }, kinds := [], alts := [], laidByText := true, laidKinds := [.data, .data, .data], laidTests := true, laidLooks := .later }
def MiniOneUptoCardSaid : Prop := Claim7.holds Tryd.pinned (.plain (OpenSpec.upto miniOneSpec)) miniOneUptoCard

/-- THE SECOND FORM's CARD OF 'repertorylaw25.MiniUseful'. -/
def miniUsefulUptoCard : Claim7 := { stood := { row := miniUsefulUptoRow, standIns := [], harness := (true, "6a223df969358f4701f8db5bfa90f5a1bd3bc0aae09dfa481a69a86f43958853"), looks := false }, kinds := [], alts := [], laidByText := true, laidKinds := [.data, .data, .data], laidTests := true, laidLooks := .later }
def MiniUsefulUptoCardSaid : Prop := Claim7.holds Tryd.pinned (.plain (OpenSpec.upto miniUsefulSpec)) miniUsefulUptoCard
end Rows
end Go.Proofs.YtcpcghnpoekhpaaDoor
