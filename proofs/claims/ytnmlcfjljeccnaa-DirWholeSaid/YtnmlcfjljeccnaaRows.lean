/-
  No cell of these rows narrows 'for every input' (looked for: loops, veiled, ifaces, maps, wideKeys, modest, calm, conditions, laid).
  DERIVED. THE GIVEN ROWS OF THIS SEAT. 6 by the template 'for every input the law returns true; each argument reads behind the call as it read before'; 0 by the template 'total and deterministic' (their statements: YtnmlcfjljeccnaaTotals.lean).
  GIVEN WITH THE SEED: the statements are not yours to turn. If you find one false, say at which input.
  Laid BY PROGRAM, IN A SANDBOX (cutbox-rows.mjs): the forced cells as the released guide's own fill.sh prints them over the translation b938354e5a48e784… (all of the seat's roots in one cut). By AI agents, Wed Nov 11 2026. No macro, syntax, notation, axiom, sorry.
-/
import Derived.Test.YtnmlcfjljeccnaaChecked
import GoSem.Claim
import GoSem.ClaimJoined
import GoSem.ClaimMapViews
import Derived.JoinedTies
import Derived.KernelRfl
namespace Go.Proofs.Ytnmlcfjljeccnaa
/- THE CELL 'sum', in the pinned program and in every row, IS THE sha256 OF THE DUMP (.gsa) THAT YtnmlcfjljeccnaaProg.lean LOADS. Nothing in Lean hashes anything: it is a label: what it is worth is what the hold of that sum in a sandbox is worth. -/
noncomputable def Try.pinned : Pinned := { name := "ytnmlcfjljeccnaa", sum := "b938354e5a48e7841428ac261e87338c7f34026d0661a7e898eb42eeef637a0a", checked := Try.checked }
namespace Rows
def none {H : Type} : Left H := { results := [], args := [] }

/-- 'repertorylaw10.FaultPlays': WHATEVER THE INPUT: true; the input reads as it did. -/
def faultPlaysSpec : ChangeSpec := { name := "faultPlays", fn := fun _ => fun
  | [d] => { results := [.lit (.bool true)], args := [d] }
  | _ => none }
def faultPlaysRow : OpenClaim := { program := "ytnmlcfjljeccnaa", sum := "b938354e5a48e7841428ac261e87338c7f34026d0661a7e898eb42eeef637a0a", func := "repertory/repertorylaw10.FaultPlays", spec := "faultPlays", unfollowed := true, recurses := true, apart := false }
def FaultPlaysSaid : Prop := faultPlaysRow.holds Try.pinned (OpenSpec.ofChange faultPlaysSpec)

/-- ITS FALSE NEIGHBOUR: 'it returns false'. Refute it at one input. -/
def faultPlaysWrong : ChangeSpec := { name := "faultPlays", fn := fun _ => fun
  | [d] => { results := [.lit (.bool false)], args := [d] }
  | _ => none }
def FaultPlaysWrongFalsely : Prop := faultPlaysRow.holds Try.pinned (OpenSpec.ofChange faultPlaysWrong)

/-- 'repertorylaw08.InodePlays': WHATEVER THE INPUT: true; the input reads as it did. -/
def inodePlaysSpec : ChangeSpec := { name := "inodePlays", fn := fun _ => fun
  | [d1, d2] => { results := [.lit (.bool true)], args := [d1, d2] }
  | _ => none }
def inodePlaysRow : OpenClaim := { program := "ytnmlcfjljeccnaa", sum := "b938354e5a48e7841428ac261e87338c7f34026d0661a7e898eb42eeef637a0a", func := "repertory/repertorylaw08.InodePlays", spec := "inodePlays", apart := false }
def InodePlaysSaid : Prop := inodePlaysRow.holds Try.pinned (OpenSpec.ofChange inodePlaysSpec)

/-- ITS FALSE NEIGHBOUR: 'it returns false'. Refute it at one input. -/
def inodePlaysWrong : ChangeSpec := { name := "inodePlays", fn := fun _ => fun
  | [d1, d2] => { results := [.lit (.bool false)], args := [d1, d2] }
  | _ => none }
def InodePlaysWrongFalsely : Prop := inodePlaysRow.holds Try.pinned (OpenSpec.ofChange inodePlaysWrong)

/-- 'repertorylaw09.DirPlays': WHATEVER THE INPUT: true; the input reads as it did. -/
def dirPlaysSpec : ChangeSpec := { name := "dirPlays", fn := fun _ => fun
  | [d1, d2] => { results := [.lit (.bool true)], args := [d1, d2] }
  | _ => none }
def dirPlaysRow : OpenClaim := { program := "ytnmlcfjljeccnaa", sum := "b938354e5a48e7841428ac261e87338c7f34026d0661a7e898eb42eeef637a0a", func := "repertory/repertorylaw09.DirPlays", spec := "dirPlays", inPlace := ["maps.clone"], recurses := true, apart := false }
def DirPlaysSaid : Prop := dirPlaysRow.holds Try.pinned (OpenSpec.ofChange dirPlaysSpec)

/-- ITS FALSE NEIGHBOUR: 'it returns false'. Refute it at one input. -/
def dirPlaysWrong : ChangeSpec := { name := "dirPlays", fn := fun _ => fun
  | [d1, d2] => { results := [.lit (.bool false)], args := [d1, d2] }
  | _ => none }
def DirPlaysWrongFalsely : Prop := dirPlaysRow.holds Try.pinned (OpenSpec.ofChange dirPlaysWrong)

/-- 'repertorylaw09.DirWhole': WHATEVER THE INPUT: true; the input reads as it did. -/
def dirWholeSpec : ChangeSpec := { name := "dirWhole", fn := fun _ => fun
  | [d] => { results := [.lit (.bool true)], args := [d] }
  | _ => none }
def dirWholeRow : OpenClaim := { program := "ytnmlcfjljeccnaa", sum := "b938354e5a48e7841428ac261e87338c7f34026d0661a7e898eb42eeef637a0a", func := "repertory/repertorylaw09.DirWhole", spec := "dirWhole", inPlace := ["maps.clone"], recurses := true, apart := false }
def DirWholeSaid : Prop := dirWholeRow.holds Try.pinned (OpenSpec.ofChange dirWholeSpec)

/-- ITS FALSE NEIGHBOUR: 'it returns false'. Refute it at one input. -/
def dirWholeWrong : ChangeSpec := { name := "dirWhole", fn := fun _ => fun
  | [d] => { results := [.lit (.bool false)], args := [d] }
  | _ => none }
def DirWholeWrongFalsely : Prop := dirWholeRow.holds Try.pinned (OpenSpec.ofChange dirWholeWrong)

/-- 'repertorylaw11.DiskNames': WHATEVER THE INPUT: true; the input reads as it did. -/
def diskNamesSpec : ChangeSpec := { name := "diskNames", fn := fun _ => fun
  | [d] => { results := [.lit (.bool true)], args := [d] }
  | _ => none }
def diskNamesRow : OpenClaim := { program := "ytnmlcfjljeccnaa", sum := "b938354e5a48e7841428ac261e87338c7f34026d0661a7e898eb42eeef637a0a", func := "repertory/repertorylaw11.DiskNames", spec := "diskNames", inPlace := ["maps.clone"], unfollowed := true, recurses := true, apart := false }
def DiskNamesSaid : Prop := diskNamesRow.holds Try.pinned (OpenSpec.ofChange diskNamesSpec)

/-- ITS FALSE NEIGHBOUR: 'it returns false'. Refute it at one input. -/
def diskNamesWrong : ChangeSpec := { name := "diskNames", fn := fun _ => fun
  | [d] => { results := [.lit (.bool false)], args := [d] }
  | _ => none }
def DiskNamesWrongFalsely : Prop := diskNamesRow.holds Try.pinned (OpenSpec.ofChange diskNamesWrong)

/-- 'repertorylaw11.DiskSafe': WHATEVER THE INPUT: true; the input reads as it did. -/
def diskSafeSpec : ChangeSpec := { name := "diskSafe", fn := fun _ => fun
  | [d1, d2, d3] => { results := [.lit (.bool true)], args := [d1, d2, d3] }
  | _ => none }
def diskSafeRow : OpenClaim := { program := "ytnmlcfjljeccnaa", sum := "b938354e5a48e7841428ac261e87338c7f34026d0661a7e898eb42eeef637a0a", func := "repertory/repertorylaw11.DiskSafe", spec := "diskSafe", inPlace := ["maps.clone"], unfollowed := true, recurses := true, apart := false }
def DiskSafeSaid : Prop := diskSafeRow.holds Try.pinned (OpenSpec.ofChange diskSafeSpec)

/-- ITS FALSE NEIGHBOUR: 'it returns false'. Refute it at one input. -/
def diskSafeWrong : ChangeSpec := { name := "diskSafe", fn := fun _ => fun
  | [d1, d2, d3] => { results := [.lit (.bool false)], args := [d1, d2, d3] }
  | _ => none }
def DiskSafeWrongFalsely : Prop := diskSafeRow.holds Try.pinned (OpenSpec.ofChange diskSafeWrong)

/- THE SECOND FORM. 'bulk': how many values and letters a reading holds, each counted each time it is reached (what is shared counts as often as it is met; a slice's spare places count too). A statement '..UptoSaid' is the law's where the arguments, and the package variables that the reading takes, are together of bulk at most 1048576: NARROWER than '..Said'. Prove '..Said' where nothing that the law and all that it calls make is longer than what came in: it says more and counts as full. Else prove '..UptoSaid'. A law counts once. -/
mutual
def uptoBulk {H : Type} : DataW H → Nat
  | .lit (.string bytes) => bytes.length + 1
  | .lit _ => 1
  | .nil => 1
  | .ptr d => uptoBulk d + 1
  | .slice elems spare => uptoBulkAll elems + uptoBulkAll spare + 1
  | .agg parts => uptoBulkAll parts + 1
  | .iface _ d => uptoBulk d + 1
  | .map entries => uptoBulkEntries entries + 1
  | .held _ => 1
def uptoBulkAll {H : Type} : List (DataW H) → Nat
  | [] => 0
  | d :: r => uptoBulk d + uptoBulkAll r
def uptoBulkEntries {H : Type} : List (Lit × DataW H) → Nat
  | [] => 0
  | x :: r => uptoBulkEntry x + uptoBulkEntries r
def uptoBulkEntry {H : Type} : Lit × DataW H → Nat
  | (.string bytes, d) => bytes.length + uptoBulk d + 1
  | (_, d) => uptoBulk d + 1
 end
def uptoSmall : (H : Type) → List (DataW H) → Bool := fun _ ds => decide (uptoBulkAll ds ≤ 1048576)
def OpenSpec.upto (s : _root_.Go.ChangeSpec) : _root_.Go.OpenSpec := { _root_.Go.OpenSpec.ofChange s with cond := some uptoSmall }

/-- 'repertorylaw10.FaultPlays', WHERE WHAT IT READS IS OF BULK AT MOST 1048576: true; the input reads as it did. -/
def faultPlaysUptoRow : OpenClaim := { program := "ytnmlcfjljeccnaa", sum := "b938354e5a48e7841428ac261e87338c7f34026d0661a7e898eb42eeef637a0a", func := "repertory/repertorylaw10.FaultPlays", spec := "faultPlays", unfollowed := true, recurses := true, apart := false, narrowed := true }
def FaultPlaysUptoSaid : Prop := faultPlaysUptoRow.holds Try.pinned (OpenSpec.upto faultPlaysSpec)

/-- 'repertorylaw08.InodePlays', WHERE WHAT IT READS IS OF BULK AT MOST 1048576: true; the input reads as it did. -/
def inodePlaysUptoRow : OpenClaim := { program := "ytnmlcfjljeccnaa", sum := "b938354e5a48e7841428ac261e87338c7f34026d0661a7e898eb42eeef637a0a", func := "repertory/repertorylaw08.InodePlays", spec := "inodePlays", apart := false, narrowed := true }
def InodePlaysUptoSaid : Prop := inodePlaysUptoRow.holds Try.pinned (OpenSpec.upto inodePlaysSpec)

/-- 'repertorylaw09.DirPlays', WHERE WHAT IT READS IS OF BULK AT MOST 1048576: true; the input reads as it did. -/
def dirPlaysUptoRow : OpenClaim := { program := "ytnmlcfjljeccnaa", sum := "b938354e5a48e7841428ac261e87338c7f34026d0661a7e898eb42eeef637a0a", func := "repertory/repertorylaw09.DirPlays", spec := "dirPlays", inPlace := ["maps.clone"], recurses := true, apart := false, narrowed := true }
def DirPlaysUptoSaid : Prop := dirPlaysUptoRow.holds Try.pinned (OpenSpec.upto dirPlaysSpec)

/-- 'repertorylaw09.DirWhole', WHERE WHAT IT READS IS OF BULK AT MOST 1048576: true; the input reads as it did. -/
def dirWholeUptoRow : OpenClaim := { program := "ytnmlcfjljeccnaa", sum := "b938354e5a48e7841428ac261e87338c7f34026d0661a7e898eb42eeef637a0a", func := "repertory/repertorylaw09.DirWhole", spec := "dirWhole", inPlace := ["maps.clone"], recurses := true, apart := false, narrowed := true }
def DirWholeUptoSaid : Prop := dirWholeUptoRow.holds Try.pinned (OpenSpec.upto dirWholeSpec)

/-- 'repertorylaw11.DiskNames', WHERE WHAT IT READS IS OF BULK AT MOST 1048576: true; the input reads as it did. -/
def diskNamesUptoRow : OpenClaim := { program := "ytnmlcfjljeccnaa", sum := "b938354e5a48e7841428ac261e87338c7f34026d0661a7e898eb42eeef637a0a", func := "repertory/repertorylaw11.DiskNames", spec := "diskNames", inPlace := ["maps.clone"], unfollowed := true, recurses := true, apart := false, narrowed := true }
def DiskNamesUptoSaid : Prop := diskNamesUptoRow.holds Try.pinned (OpenSpec.upto diskNamesSpec)

/-- 'repertorylaw11.DiskSafe', WHERE WHAT IT READS IS OF BULK AT MOST 1048576: true; the input reads as it did. -/
def diskSafeUptoRow : OpenClaim := { program := "ytnmlcfjljeccnaa", sum := "b938354e5a48e7841428ac261e87338c7f34026d0661a7e898eb42eeef637a0a", func := "repertory/repertorylaw11.DiskSafe", spec := "diskSafe", inPlace := ["maps.clone"], unfollowed := true, recurses := true, apart := false, narrowed := true }
def DiskSafeUptoSaid : Prop := diskSafeUptoRow.holds Try.pinned (OpenSpec.upto diskSafeSpec)

end Rows
end Go.Proofs.Ytnmlcfjljeccnaa
