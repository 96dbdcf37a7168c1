/-
  No cell of these rows narrows 'for every input' (looked for: loops, veiled, ifaces, maps, wideKeys, modest, calm, conditions, laid).
  DERIVED. THE GIVEN ROWS OF THIS SEAT. 8 by the template 'for every input the law returns true; each argument reads behind the call as it read before'; 0 by the template 'total and deterministic' (their statements: YtkkieddebnhpcaaTotals.lean).
  GIVEN WITH THE SEED: the statements are not yours to turn. If you find one false, say at which input.
  Laid BY PROGRAM, IN A SANDBOX (cutbox-rows.mjs): the forced cells as the released guide's own fill.sh prints them over the translation 424f16c3bcf2f1c2… (all of the seat's roots in one cut). By AI agents, Wed Nov 11 2026. No macro, syntax, notation, axiom, sorry.
-/
import Derived.Test.YtkkieddebnhpcaaChecked
import GoSem.Claim
import GoSem.ClaimJoined
import GoSem.ClaimMapViews
import Derived.JoinedTies
import Derived.KernelRfl
namespace Go.Proofs.Ytkkieddebnhpcaa
/- THE CELL 'sum', in the pinned program and in every row, IS THE sha256 OF THE DUMP (.gsa) THAT YtkkieddebnhpcaaProg.lean LOADS. Nothing in Lean hashes anything: it is a label: what it is worth is what the hold of that sum in a sandbox is worth. -/
noncomputable def Try.pinned : Pinned := { name := "ytkkieddebnhpcaa", sum := "424f16c3bcf2f1c2d48eb2c07870c78fe3db60d686300f17d57e480af9da585e", checked := Try.checked }
namespace Rows
def none {H : Type} : Left H := { results := [], args := [] }

/-- 'repertorylaw19.WsetCats': WHATEVER THE INPUT: true; the input reads as it did. -/
def wsetCatsSpec : ChangeSpec := { name := "wsetCats", fn := fun _ => fun
  | [d1, d2, d3] => { results := [.lit (.bool true)], args := [d1, d2, d3] }
  | _ => none }
def wsetCatsRow : OpenClaim := { program := "ytkkieddebnhpcaa", sum := "424f16c3bcf2f1c2d48eb2c07870c78fe3db60d686300f17d57e480af9da585e", func := "repertory/repertorylaw19.WsetCats", spec := "wsetCats", unfollowed := true, recurses := true, apart := false }
def WsetCatsSaid : Prop := wsetCatsRow.holds Try.pinned (OpenSpec.ofChange wsetCatsSpec)

/-- ITS FALSE NEIGHBOUR: 'it returns false'. Refute it at one input. -/
def wsetCatsWrong : ChangeSpec := { name := "wsetCats", fn := fun _ => fun
  | [d1, d2, d3] => { results := [.lit (.bool false)], args := [d1, d2, d3] }
  | _ => none }
def WsetCatsWrongFalsely : Prop := wsetCatsRow.holds Try.pinned (OpenSpec.ofChange wsetCatsWrong)

/-- 'repertorylaw19.WsetLimit': WHATEVER THE INPUT: true; the input reads as it did. -/
def wsetLimitSpec : ChangeSpec := { name := "wsetLimit", fn := fun _ => fun
  | [d1, d2] => { results := [.lit (.bool true)], args := [d1, d2] }
  | _ => none }
def wsetLimitRow : OpenClaim := { program := "ytkkieddebnhpcaa", sum := "424f16c3bcf2f1c2d48eb2c07870c78fe3db60d686300f17d57e480af9da585e", func := "repertory/repertorylaw19.WsetLimit", spec := "wsetLimit", unfollowed := true, recurses := true, apart := false }
def WsetLimitSaid : Prop := wsetLimitRow.holds Try.pinned (OpenSpec.ofChange wsetLimitSpec)

/-- ITS FALSE NEIGHBOUR: 'it returns false'. Refute it at one input. -/
def wsetLimitWrong : ChangeSpec := { name := "wsetLimit", fn := fun _ => fun
  | [d1, d2] => { results := [.lit (.bool false)], args := [d1, d2] }
  | _ => none }
def WsetLimitWrongFalsely : Prop := wsetLimitRow.holds Try.pinned (OpenSpec.ofChange wsetLimitWrong)

/-- 'repertorylaw19.WsetOf': WHATEVER THE INPUT: true; the input reads as it did. -/
def wsetOfSpec : ChangeSpec := { name := "wsetOf", fn := fun _ => fun
  | [d1, d2, d3] => { results := [.lit (.bool true)], args := [d1, d2, d3] }
  | _ => none }
def wsetOfRow : OpenClaim := { program := "ytkkieddebnhpcaa", sum := "424f16c3bcf2f1c2d48eb2c07870c78fe3db60d686300f17d57e480af9da585e", func := "repertory/repertorylaw19.WsetOf", spec := "wsetOf", unfollowed := true, recurses := true, apart := false }
def WsetOfSaid : Prop := wsetOfRow.holds Try.pinned (OpenSpec.ofChange wsetOfSpec)

/-- ITS FALSE NEIGHBOUR: 'it returns false'. Refute it at one input. -/
def wsetOfWrong : ChangeSpec := { name := "wsetOf", fn := fun _ => fun
  | [d1, d2, d3] => { results := [.lit (.bool false)], args := [d1, d2, d3] }
  | _ => none }
def WsetOfWrongFalsely : Prop := wsetOfRow.holds Try.pinned (OpenSpec.ofChange wsetOfWrong)

/-- 'repertorylaw19.WsetJoins': WHATEVER THE INPUT: true; the input reads as it did. -/
def wsetJoinsSpec : ChangeSpec := { name := "wsetJoins", fn := fun _ => fun
  | [d1, d2, d3] => { results := [.lit (.bool true)], args := [d1, d2, d3] }
  | _ => none }
def wsetJoinsRow : OpenClaim := { program := "ytkkieddebnhpcaa", sum := "424f16c3bcf2f1c2d48eb2c07870c78fe3db60d686300f17d57e480af9da585e", func := "repertory/repertorylaw19.WsetJoins", spec := "wsetJoins", unfollowed := true, recurses := true, apart := false }
def WsetJoinsSaid : Prop := wsetJoinsRow.holds Try.pinned (OpenSpec.ofChange wsetJoinsSpec)

/-- ITS FALSE NEIGHBOUR: 'it returns false'. Refute it at one input. -/
def wsetJoinsWrong : ChangeSpec := { name := "wsetJoins", fn := fun _ => fun
  | [d1, d2, d3] => { results := [.lit (.bool false)], args := [d1, d2, d3] }
  | _ => none }
def WsetJoinsWrongFalsely : Prop := wsetJoinsRow.holds Try.pinned (OpenSpec.ofChange wsetJoinsWrong)

/-- 'repertorylaw09.DirPlays': WHATEVER THE INPUT: true; the input reads as it did. -/
def dirPlaysSpec : ChangeSpec := { name := "dirPlays", fn := fun _ => fun
  | [d1, d2] => { results := [.lit (.bool true)], args := [d1, d2] }
  | _ => none }
def dirPlaysRow : OpenClaim := { program := "ytkkieddebnhpcaa", sum := "424f16c3bcf2f1c2d48eb2c07870c78fe3db60d686300f17d57e480af9da585e", func := "repertory/repertorylaw09.DirPlays", spec := "dirPlays", inPlace := ["maps.clone"], recurses := true, apart := false }
def DirPlaysSaid : Prop := dirPlaysRow.holds Try.pinned (OpenSpec.ofChange dirPlaysSpec)

/-- ITS FALSE NEIGHBOUR: 'it returns false'. Refute it at one input. -/
def dirPlaysWrong : ChangeSpec := { name := "dirPlays", fn := fun _ => fun
  | [d1, d2] => { results := [.lit (.bool false)], args := [d1, d2] }
  | _ => none }
def DirPlaysWrongFalsely : Prop := dirPlaysRow.holds Try.pinned (OpenSpec.ofChange dirPlaysWrong)

/-- 'repertorylaw09.DirWhole': WHATEVER THE INPUT: true; the input reads as it did. -/
def dirWholeSpec : ChangeSpec := { name := "dirWhole", fn := fun _ => fun
  | [d] => { results := [.lit (.bool true)], args := [d] }
  | _ => none }
def dirWholeRow : OpenClaim := { program := "ytkkieddebnhpcaa", sum := "424f16c3bcf2f1c2d48eb2c07870c78fe3db60d686300f17d57e480af9da585e", func := "repertory/repertorylaw09.DirWhole", spec := "dirWhole", inPlace := ["maps.clone"], recurses := true, apart := false }
def DirWholeSaid : Prop := dirWholeRow.holds Try.pinned (OpenSpec.ofChange dirWholeSpec)

/-- ITS FALSE NEIGHBOUR: 'it returns false'. Refute it at one input. -/
def dirWholeWrong : ChangeSpec := { name := "dirWhole", fn := fun _ => fun
  | [d] => { results := [.lit (.bool false)], args := [d] }
  | _ => none }
def DirWholeWrongFalsely : Prop := dirWholeRow.holds Try.pinned (OpenSpec.ofChange dirWholeWrong)

/-- 'repertorylaw11.DiskNames': WHATEVER THE INPUT: true; the input reads as it did. -/
def diskNamesSpec : ChangeSpec := { name := "diskNames", fn := fun _ => fun
  | [d] => { results := [.lit (.bool true)], args := [d] }
  | _ => none }
def diskNamesRow : OpenClaim := { program := "ytkkieddebnhpcaa", sum := "424f16c3bcf2f1c2d48eb2c07870c78fe3db60d686300f17d57e480af9da585e", func := "repertory/repertorylaw11.DiskNames", spec := "diskNames", inPlace := ["maps.clone"], unfollowed := true, recurses := true, apart := false }
def DiskNamesSaid : Prop := diskNamesRow.holds Try.pinned (OpenSpec.ofChange diskNamesSpec)

/-- ITS FALSE NEIGHBOUR: 'it returns false'. Refute it at one input. -/
def diskNamesWrong : ChangeSpec := { name := "diskNames", fn := fun _ => fun
  | [d] => { results := [.lit (.bool false)], args := [d] }
  | _ => none }
def DiskNamesWrongFalsely : Prop := diskNamesRow.holds Try.pinned (OpenSpec.ofChange diskNamesWrong)

/-- 'repertorylaw11.DiskSafe': WHATEVER THE INPUT: true; the input reads as it did. -/
def diskSafeSpec : ChangeSpec := { name := "diskSafe", fn := fun _ => fun
  | [d1, d2, d3] => { results := [.lit (.bool true)], args := [d1, d2, d3] }
  | _ => none }
def diskSafeRow : OpenClaim := { program := "ytkkieddebnhpcaa", sum := "424f16c3bcf2f1c2d48eb2c07870c78fe3db60d686300f17d57e480af9da585e", func := "repertory/repertorylaw11.DiskSafe", spec := "diskSafe", inPlace := ["maps.clone"], unfollowed := true, recurses := true, apart := false }
def DiskSafeSaid : Prop := diskSafeRow.holds Try.pinned (OpenSpec.ofChange diskSafeSpec)

/-- ITS FALSE NEIGHBOUR: 'it returns false'. Refute it at one input. -/
def diskSafeWrong : ChangeSpec := { name := "diskSafe", fn := fun _ => fun
  | [d1, d2, d3] => { results := [.lit (.bool false)], args := [d1, d2, d3] }
  | _ => none }
def DiskSafeWrongFalsely : Prop := diskSafeRow.holds Try.pinned (OpenSpec.ofChange diskSafeWrong)

/- THE SECOND FORM. 'bulk': how many values and letters a reading holds, each counted each time it is reached (what is shared counts as often as it is met; a slice's spare places count too). A statement '..UptoSaid' is the law's where the arguments, and the package variables that the reading takes, are together of bulk at most 1048576: NARROWER than '..Said'. Prove '..Said' where nothing that the law and all that it calls make is longer than what came in: it says more and counts as full. Else prove '..UptoSaid'. A law counts once. -/
mutual
def uptoBulk {H : Type} : DataW H → Nat
  | .lit (.string bytes) => bytes.length + 1
  | .lit _ => 1
  | .nil => 1
  | .ptr d => uptoBulk d + 1
  | .slice elems spare => uptoBulkAll elems + uptoBulkAll spare + 1
  | .agg parts => uptoBulkAll parts + 1
  | .iface _ d => uptoBulk d + 1
  | .map entries => uptoBulkEntries entries + 1
  | .held _ => 1
def uptoBulkAll {H : Type} : List (DataW H) → Nat
  | [] => 0
  | d :: r => uptoBulk d + uptoBulkAll r
def uptoBulkEntries {H : Type} : List (Lit × DataW H) → Nat
  | [] => 0
  | x :: r => uptoBulkEntry x + uptoBulkEntries r
def uptoBulkEntry {H : Type} : Lit × DataW H → Nat
  | (.string bytes, d) => bytes.length + uptoBulk d + 1
  | (_, d) => uptoBulk d + 1
 end
def uptoSmall : (H : Type) → List (DataW H) → Bool := fun _ ds => decide (uptoBulkAll ds ≤ 1048576)
def OpenSpec.upto (s : _root_.Go.ChangeSpec) : _root_.Go.OpenSpec := { _root_.Go.OpenSpec.ofChange s with cond := some uptoSmall }

/-- 'repertorylaw19.WsetCats', WHERE WHAT IT READS IS OF BULK AT MOST 1048576: true; the input reads as it did. -/
def wsetCatsUptoRow : OpenClaim := { program := "ytkkieddebnhpcaa", sum := "424f16c3bcf2f1c2d48eb2c07870c78fe3db60d686300f17d57e480af9da585e", func := "repertory/repertorylaw19.WsetCats", spec := "wsetCats", unfollowed := true, recurses := true, apart := false, narrowed := true }
def WsetCatsUptoSaid : Prop := wsetCatsUptoRow.holds Try.pinned (OpenSpec.upto wsetCatsSpec)

/-- 'repertorylaw19.WsetLimit', WHERE WHAT IT READS IS OF BULK AT MOST 1048576: true; the input reads as it did. -/
def wsetLimitUptoRow : OpenClaim := { program := "ytkkieddebnhpcaa", sum := "424f16c3bcf2f1c2d48eb2c07870c78fe3db60d686300f17d57e480af9da585e", func := "repertory/repertorylaw19.WsetLimit", spec := "wsetLimit", unfollowed := true, recurses := true, apart := false, narrowed := true }
def WsetLimitUptoSaid : Prop := wsetLimitUptoRow.holds Try.pinned (OpenSpec.upto wsetLimitSpec)

/-- 'repertorylaw19.WsetOf', WHERE WHAT IT READS IS OF BULK AT MOST 1048576: true; the input reads as it did. -/
def wsetOfUptoRow : OpenClaim := { program := "ytkkieddebnhpcaa", sum := "424f16c3bcf2f1c2d48eb2c07870c78fe3db60d686300f17d57e480af9da585e", func := "repertory/repertorylaw19.WsetOf", spec := "wsetOf", unfollowed := true, recurses := true, apart := false, narrowed := true }
def WsetOfUptoSaid : Prop := wsetOfUptoRow.holds Try.pinned (OpenSpec.upto wsetOfSpec)

/-- 'repertorylaw19.WsetJoins', WHERE WHAT IT READS IS OF BULK AT MOST 1048576: true; the input reads as it did. -/
def wsetJoinsUptoRow : OpenClaim := { program := "ytkkieddebnhpcaa", sum := "424f16c3bcf2f1c2d48eb2c07870c78fe3db60d686300f17d57e480af9da585e", func := "repertory/repertorylaw19.WsetJoins", spec := "wsetJoins", unfollowed := true, recurses := true, apart := false, narrowed := true }
def WsetJoinsUptoSaid : Prop := wsetJoinsUptoRow.holds Try.pinned (OpenSpec.upto wsetJoinsSpec)

/-- 'repertorylaw09.DirPlays', WHERE WHAT IT READS IS OF BULK AT MOST 1048576: true; the input reads as it did. -/
def dirPlaysUptoRow : OpenClaim := { program := "ytkkieddebnhpcaa", sum := "424f16c3bcf2f1c2d48eb2c07870c78fe3db60d686300f17d57e480af9da585e", func := "repertory/repertorylaw09.DirPlays", spec := "dirPlays", inPlace := ["maps.clone"], recurses := true, apart := false, narrowed := true }
def DirPlaysUptoSaid : Prop := dirPlaysUptoRow.holds Try.pinned (OpenSpec.upto dirPlaysSpec)

/-- 'repertorylaw09.DirWhole', WHERE WHAT IT READS IS OF BULK AT MOST 1048576: true; the input reads as it did. -/
def dirWholeUptoRow : OpenClaim := { program := "ytkkieddebnhpcaa", sum := "424f16c3bcf2f1c2d48eb2c07870c78fe3db60d686300f17d57e480af9da585e", func := "repertory/repertorylaw09.DirWhole", spec := "dirWhole", inPlace := ["maps.clone"], recurses := true, apart := false, narrowed := true }
def DirWholeUptoSaid : Prop := dirWholeUptoRow.holds Try.pinned (OpenSpec.upto dirWholeSpec)

/-- 'repertorylaw11.DiskNames', WHERE WHAT IT READS IS OF BULK AT MOST 1048576: true; the input reads as it did. -/
def diskNamesUptoRow : OpenClaim := { program := "ytkkieddebnhpcaa", sum := "424f16c3bcf2f1c2d48eb2c07870c78fe3db60d686300f17d57e480af9da585e", func := "repertory/repertorylaw11.DiskNames", spec := "diskNames", inPlace := ["maps.clone"], unfollowed := true, recurses := true, apart := false, narrowed := true }
def DiskNamesUptoSaid : Prop := diskNamesUptoRow.holds Try.pinned (OpenSpec.upto diskNamesSpec)

/-- 'repertorylaw11.DiskSafe', WHERE WHAT IT READS IS OF BULK AT MOST 1048576: true; the input reads as it did. -/
def diskSafeUptoRow : OpenClaim := { program := "ytkkieddebnhpcaa", sum := "424f16c3bcf2f1c2d48eb2c07870c78fe3db60d686300f17d57e480af9da585e", func := "repertory/repertorylaw11.DiskSafe", spec := "diskSafe", inPlace := ["maps.clone"], unfollowed := true, recurses := true, apart := false, narrowed := true }
def DiskSafeUptoSaid : Prop := diskSafeUptoRow.holds Try.pinned (OpenSpec.upto diskSafeSpec)

end Rows
end Go.Proofs.Ytkkieddebnhpcaa
