/-
  No cell of these rows narrows 'for every input' (looked for: loops, veiled, ifaces, maps, wideKeys, modest, calm, conditions, laid).
  DERIVED. THE GIVEN ROWS OF THIS SEAT. 7 by the template 'for every input the law returns true; each argument reads behind the call as it read before'; 0 by the template 'total and deterministic' (their statements: YtgimfjmigoibgaaTotals.lean).
  GIVEN WITH THE SEED: the statements are not yours to turn. If you find one false, say at which input.
  Laid BY PROGRAM, IN A SANDBOX (cutbox-rows.mjs): the forced cells as the released guide's own fill.sh prints them over the translation 51b3d23506051513… (all of the seat's roots in one cut). By AI agents, Wed Nov 11 2026. No macro, syntax, notation, axiom, sorry.
-/
import Derived.Test.YtgimfjmigoibgaaChecked
import GoSem.Claim
import GoSem.ClaimJoined
import GoSem.ClaimMapViews
import Derived.JoinedTies
import Derived.KernelRfl
namespace Go.Proofs.Ytgimfjmigoibgaa
/- THE CELL 'sum', in the pinned program and in every row, IS THE sha256 OF THE DUMP (.gsa) THAT YtgimfjmigoibgaaProg.lean LOADS. Nothing in Lean hashes anything: it is a label: what it is worth is what the hold of that sum in a sandbox is worth. -/
noncomputable def Try.pinned : Pinned := { name := "ytgimfjmigoibgaa", sum := "51b3d235060515138758bede45ba7d3a27980ccb6d79cf71ffa12a615cb7a2b7", checked := Try.checked }
namespace Rows
def none {H : Type} : Left H := { results := [], args := [] }

/-- 'repertorylaw13.ParseTexts': WHATEVER THE INPUT: true; the input reads as it did. -/
def parseTextsSpec : ChangeSpec := { name := "parseTexts", fn := fun _ => fun
  | [d] => { results := [.lit (.bool true)], args := [d] }
  | _ => none }
def parseTextsRow : OpenClaim := { program := "ytgimfjmigoibgaa", sum := "51b3d235060515138758bede45ba7d3a27980ccb6d79cf71ffa12a615cb7a2b7", func := "repertory/repertorylaw13.ParseTexts", spec := "parseTexts", inPlace := ["internal/abi.NoEscape"], unfollowed := true, recurses := true, apart := false }
def ParseTextsSaid : Prop := parseTextsRow.holds Try.pinned (OpenSpec.ofChange parseTextsSpec)

/-- ITS FALSE NEIGHBOUR: 'it returns false'. Refute it at one input. -/
def parseTextsWrong : ChangeSpec := { name := "parseTexts", fn := fun _ => fun
  | [d] => { results := [.lit (.bool false)], args := [d] }
  | _ => none }
def ParseTextsWrongFalsely : Prop := parseTextsRow.holds Try.pinned (OpenSpec.ofChange parseTextsWrong)

/-- 'repertorylaw13.ParseBack': WHATEVER THE INPUT: true; the input reads as it did. -/
def parseBackSpec : ChangeSpec := { name := "parseBack", fn := fun _ => fun
  | [d] => { results := [.lit (.bool true)], args := [d] }
  | _ => none }
def parseBackRow : OpenClaim := { program := "ytgimfjmigoibgaa", sum := "51b3d235060515138758bede45ba7d3a27980ccb6d79cf71ffa12a615cb7a2b7", func := "repertory/repertorylaw13.ParseBack", spec := "parseBack", inPlace := ["internal/abi.NoEscape"], unfollowed := true, recurses := true, apart := false }
def ParseBackSaid : Prop := parseBackRow.holds Try.pinned (OpenSpec.ofChange parseBackSpec)

/-- ITS FALSE NEIGHBOUR: 'it returns false'. Refute it at one input. -/
def parseBackWrong : ChangeSpec := { name := "parseBack", fn := fun _ => fun
  | [d] => { results := [.lit (.bool false)], args := [d] }
  | _ => none }
def ParseBackWrongFalsely : Prop := parseBackRow.holds Try.pinned (OpenSpec.ofChange parseBackWrong)

/-- 'repertorylaw14.GramBounds': WHATEVER THE INPUT: true; the input reads as it did. -/
def gramBoundsSpec : ChangeSpec := { name := "gramBounds", fn := fun _ => fun
  | [d1, d2, d3] => { results := [.lit (.bool true)], args := [d1, d2, d3] }
  | _ => none }
def gramBoundsRow : OpenClaim := { program := "ytgimfjmigoibgaa", sum := "51b3d235060515138758bede45ba7d3a27980ccb6d79cf71ffa12a615cb7a2b7", func := "repertory/repertorylaw14.GramBounds", spec := "gramBounds", unfollowed := true, recurses := true, apart := false }
def GramBoundsSaid : Prop := gramBoundsRow.holds Try.pinned (OpenSpec.ofChange gramBoundsSpec)

/-- ITS FALSE NEIGHBOUR: 'it returns false'. Refute it at one input. -/
def gramBoundsWrong : ChangeSpec := { name := "gramBounds", fn := fun _ => fun
  | [d1, d2, d3] => { results := [.lit (.bool false)], args := [d1, d2, d3] }
  | _ => none }
def GramBoundsWrongFalsely : Prop := gramBoundsRow.holds Try.pinned (OpenSpec.ofChange gramBoundsWrong)

/-- 'repertorylaw14.GramReads': WHATEVER THE INPUT: true; the input reads as it did. -/
def gramReadsSpec : ChangeSpec := { name := "gramReads", fn := fun _ => fun
  | [d] => { results := [.lit (.bool true)], args := [d] }
  | _ => none }
def gramReadsRow : OpenClaim := { program := "ytgimfjmigoibgaa", sum := "51b3d235060515138758bede45ba7d3a27980ccb6d79cf71ffa12a615cb7a2b7", func := "repertory/repertorylaw14.GramReads", spec := "gramReads", unfollowed := true, recurses := true, apart := false }
def GramReadsSaid : Prop := gramReadsRow.holds Try.pinned (OpenSpec.ofChange gramReadsSpec)

/-- ITS FALSE NEIGHBOUR: 'it returns false'. Refute it at one input. -/
def gramReadsWrong : ChangeSpec := { name := "gramReads", fn := fun _ => fun
  | [d] => { results := [.lit (.bool false)], args := [d] }
  | _ => none }
def GramReadsWrongFalsely : Prop := gramReadsRow.holds Try.pinned (OpenSpec.ofChange gramReadsWrong)

/-- 'repertorylaw14.GramValid': WHATEVER THE INPUT: true; the input reads as it did. -/
def gramValidSpec : ChangeSpec := { name := "gramValid", fn := fun _ => fun
  | [d1, d2, d3] => { results := [.lit (.bool true)], args := [d1, d2, d3] }
  | _ => none }
def gramValidRow : OpenClaim := { program := "ytgimfjmigoibgaa", sum := "51b3d235060515138758bede45ba7d3a27980ccb6d79cf71ffa12a615cb7a2b7", func := "repertory/repertorylaw14.GramValid", spec := "gramValid", unfollowed := true, recurses := true, apart := false }
def GramValidSaid : Prop := gramValidRow.holds Try.pinned (OpenSpec.ofChange gramValidSpec)

/-- ITS FALSE NEIGHBOUR: 'it returns false'. Refute it at one input. -/
def gramValidWrong : ChangeSpec := { name := "gramValid", fn := fun _ => fun
  | [d1, d2, d3] => { results := [.lit (.bool false)], args := [d1, d2, d3] }
  | _ => none }
def GramValidWrongFalsely : Prop := gramValidRow.holds Try.pinned (OpenSpec.ofChange gramValidWrong)

/-- 'repertorylaw14.GramBack': WHATEVER THE INPUT: true; the input reads as it did. -/
def gramBackSpec : ChangeSpec := { name := "gramBack", fn := fun _ => fun
  | [d] => { results := [.lit (.bool true)], args := [d] }
  | _ => none }
def gramBackRow : OpenClaim := { program := "ytgimfjmigoibgaa", sum := "51b3d235060515138758bede45ba7d3a27980ccb6d79cf71ffa12a615cb7a2b7", func := "repertory/repertorylaw14.GramBack", spec := "gramBack", unfollowed := true, recurses := true, apart := false }
def GramBackSaid : Prop := gramBackRow.holds Try.pinned (OpenSpec.ofChange gramBackSpec)

/-- ITS FALSE NEIGHBOUR: 'it returns false'. Refute it at one input. -/
def gramBackWrong : ChangeSpec := { name := "gramBack", fn := fun _ => fun
  | [d] => { results := [.lit (.bool false)], args := [d] }
  | _ => none }
def GramBackWrongFalsely : Prop := gramBackRow.holds Try.pinned (OpenSpec.ofChange gramBackWrong)

/-- 'repertorylaw16.CanonBack': WHATEVER THE INPUT: true; the input reads as it did. -/
def canonBackSpec : ChangeSpec := { name := "canonBack", fn := fun _ => fun
  | [d] => { results := [.lit (.bool true)], args := [d] }
  | _ => none }
def canonBackRow : OpenClaim := { program := "ytgimfjmigoibgaa", sum := "51b3d235060515138758bede45ba7d3a27980ccb6d79cf71ffa12a615cb7a2b7", func := "repertory/repertorylaw16.CanonBack", spec := "canonBack", inPlace := ["internal/abi.NoEscape"], unfollowed := true, recurses := true, apart := false }
def CanonBackSaid : Prop := canonBackRow.holds Try.pinned (OpenSpec.ofChange canonBackSpec)

/-- ITS FALSE NEIGHBOUR: 'it returns false'. Refute it at one input. -/
def canonBackWrong : ChangeSpec := { name := "canonBack", fn := fun _ => fun
  | [d] => { results := [.lit (.bool false)], args := [d] }
  | _ => none }
def CanonBackWrongFalsely : Prop := canonBackRow.holds Try.pinned (OpenSpec.ofChange canonBackWrong)

/- THE SECOND FORM. 'bulk': how many values and letters a reading holds, each counted each time it is reached (what is shared counts as often as it is met; a slice's spare places count too). A statement '..UptoSaid' is the law's where the arguments, and the package variables that the reading takes, are together of bulk at most 1048576: NARROWER than '..Said'. Prove '..Said' where nothing that the law and all that it calls make is longer than what came in: it says more and counts as full. Else prove '..UptoSaid'. A law counts once. -/
mutual
def uptoBulk {H : Type} : DataW H → Nat
  | .lit (.string bytes) => bytes.length + 1
  | .lit _ => 1
  | .nil => 1
  | .ptr d => uptoBulk d + 1
  | .slice elems spare => uptoBulkAll elems + uptoBulkAll spare + 1
  | .agg parts => uptoBulkAll parts + 1
  | .iface _ d => uptoBulk d + 1
  | .map entries => uptoBulkEntries entries + 1
  | .held _ => 1
def uptoBulkAll {H : Type} : List (DataW H) → Nat
  | [] => 0
  | d :: r => uptoBulk d + uptoBulkAll r
def uptoBulkEntries {H : Type} : List (Lit × DataW H) → Nat
  | [] => 0
  | x :: r => uptoBulkEntry x + uptoBulkEntries r
def uptoBulkEntry {H : Type} : Lit × DataW H → Nat
  | (.string bytes, d) => bytes.length + uptoBulk d + 1
  | (_, d) => uptoBulk d + 1
 end
def uptoSmall : (H : Type) → List (DataW H) → Bool := fun _ ds => decide (uptoBulkAll ds ≤ 1048576)
def OpenSpec.upto (s : _root_.Go.ChangeSpec) : _root_.Go.OpenSpec := { _root_.Go.OpenSpec.ofChange s with cond := some uptoSmall }

/-- 'repertorylaw13.ParseTexts', WHERE WHAT IT READS IS OF BULK AT MOST 1048576: true; the input reads as it did. -/
def parseTextsUptoRow : OpenClaim := { program := "ytgimfjmigoibgaa", sum := "51b3d235060515138758bede45ba7d3a27980ccb6d79cf71ffa12a615cb7a2b7", func := "repertory/repertorylaw13.ParseTexts", spec := "parseTexts", inPlace := ["internal/abi.NoEscape"], unfollowed := true, recurses := true, apart := false, narrowed := true }
def ParseTextsUptoSaid : Prop := parseTextsUptoRow.holds Try.pinned (OpenSpec.upto parseTextsSpec)

/-- 'repertorylaw13.ParseBack', WHERE WHAT IT READS IS OF BULK AT MOST 1048576: true; the input reads as it did. -/
def parseBackUptoRow : OpenClaim := { program := "ytgimfjmigoibgaa", sum := "51b3d235060515138758bede45ba7d3a27980ccb6d79cf71ffa12a615cb7a2b7", func := "repertory/repertorylaw13.ParseBack", spec := "parseBack", inPlace := ["internal/abi.NoEscape"], unfollowed := true, recurses := true, apart := false, narrowed := true }
def ParseBackUptoSaid : Prop := parseBackUptoRow.holds Try.pinned (OpenSpec.upto parseBackSpec)

/-- 'repertorylaw14.GramBounds', WHERE WHAT IT READS IS OF BULK AT MOST 1048576: true; the input reads as it did. -/
def gramBoundsUptoRow : OpenClaim := { program := "ytgimfjmigoibgaa", sum := "51b3d235060515138758bede45ba7d3a27980ccb6d79cf71ffa12a615cb7a2b7", func := "repertory/repertorylaw14.GramBounds", spec := "gramBounds", unfollowed := true, recurses := true, apart := false, narrowed := true }
def GramBoundsUptoSaid : Prop := gramBoundsUptoRow.holds Try.pinned (OpenSpec.upto gramBoundsSpec)

/-- 'repertorylaw14.GramReads', WHERE WHAT IT READS IS OF BULK AT MOST 1048576: true; the input reads as it did. -/
def gramReadsUptoRow : OpenClaim := { program := "ytgimfjmigoibgaa", sum := "51b3d235060515138758bede45ba7d3a27980ccb6d79cf71ffa12a615cb7a2b7", func := "repertory/repertorylaw14.GramReads", spec := "gramReads", unfollowed := true, recurses := true, apart := false, narrowed := true }
def GramReadsUptoSaid : Prop := gramReadsUptoRow.holds Try.pinned (OpenSpec.upto gramReadsSpec)

/-- 'repertorylaw14.GramValid', WHERE WHAT IT READS IS OF BULK AT MOST 1048576: true; the input reads as it did. -/
def gramValidUptoRow : OpenClaim := { program := "ytgimfjmigoibgaa", sum := "51b3d235060515138758bede45ba7d3a27980ccb6d79cf71ffa12a615cb7a2b7", func := "repertory/repertorylaw14.GramValid", spec := "gramValid", unfollowed := true, recurses := true, apart := false, narrowed := true }
def GramValidUptoSaid : Prop := gramValidUptoRow.holds Try.pinned (OpenSpec.upto gramValidSpec)

/-- 'repertorylaw14.GramBack', WHERE WHAT IT READS IS OF BULK AT MOST 1048576: true; the input reads as it did. -/
def gramBackUptoRow : OpenClaim := { program := "ytgimfjmigoibgaa", sum := "51b3d235060515138758bede45ba7d3a27980ccb6d79cf71ffa12a615cb7a2b7", func := "repertory/repertorylaw14.GramBack", spec := "gramBack", unfollowed := true, recurses := true, apart := false, narrowed := true }
def GramBackUptoSaid : Prop := gramBackUptoRow.holds Try.pinned (OpenSpec.upto gramBackSpec)

/-- 'repertorylaw16.CanonBack', WHERE WHAT IT READS IS OF BULK AT MOST 1048576: true; the input reads as it did. -/
def canonBackUptoRow : OpenClaim := { program := "ytgimfjmigoibgaa", sum := "51b3d235060515138758bede45ba7d3a27980ccb6d79cf71ffa12a615cb7a2b7", func := "repertory/repertorylaw16.CanonBack", spec := "canonBack", inPlace := ["internal/abi.NoEscape"], unfollowed := true, recurses := true, apart := false, narrowed := true }
def CanonBackUptoSaid : Prop := canonBackUptoRow.holds Try.pinned (OpenSpec.upto canonBackSpec)

end Rows
end Go.Proofs.Ytgimfjmigoibgaa
