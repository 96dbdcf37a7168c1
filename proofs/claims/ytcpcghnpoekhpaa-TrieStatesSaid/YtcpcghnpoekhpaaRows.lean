/-
  No cell of these rows narrows 'for every input' (looked for: loops, veiled, ifaces, maps, wideKeys, modest, calm, conditions, laid).
  DERIVED. THE GIVEN ROWS OF THIS SEAT. 3 by the template 'for every input the law returns true; each argument reads behind the call as it read before'; 0 by the template 'total and deterministic' (their statements: YtcpcghnpoekhpaaTotals.lean).
  GIVEN WITH THE SEED: the statements are not yours to turn. If you find one false, say at which input.
  Laid BY PROGRAM, IN A SANDBOX (cutbox-rows.mjs): the forced cells as the released guide's own fill.sh prints them over the translation 82e9bb3c4d371279… (all of the seat's roots in one cut). By AI agents, Wed Nov 11 2026. No macro, syntax, notation, axiom, sorry.
-/
import Derived.Test.YtcpcghnpoekhpaaChecked
import GoSem.Claim
import GoSem.ClaimJoined
import GoSem.ClaimMapViews
import Derived.JoinedTies
import Derived.KernelRfl
namespace Go.Proofs.Ytcpcghnpoekhpaa
/- THE CELL 'sum', in the pinned program and in every row, IS THE sha256 OF THE DUMP (.gsa) THAT YtcpcghnpoekhpaaProg.lean LOADS. Nothing in Lean hashes anything: it is a label: what it is worth is what the hold of that sum in a sandbox is worth. -/
noncomputable def Try.pinned : Pinned := { name := "ytcpcghnpoekhpaa", sum := "82e9bb3c4d371279a1a8311298360bc182373885158efe94c9bd6ee6858410a8", checked := Try.checked }
namespace Rows
def none {H : Type} : Left H := { results := [], args := [] }

/-- 'repertorylaw24.TrieTells': WHATEVER THE INPUT: true; the input reads as it did. -/
def trieTellsSpec : ChangeSpec := { name := "trieTells", fn := fun _ => fun
  | [d1, d2] => { results := [.lit (.bool true)], args := [d1, d2] }
  | _ => none }
def trieTellsRow : OpenClaim := { program := "ytcpcghnpoekhpaa", sum := "82e9bb3c4d371279a1a8311298360bc182373885158efe94c9bd6ee6858410a8", func := "repertory/repertorylaw24.TrieTells", spec := "trieTells", inPlace := ["internal/bytealg.abigen_runtime_cmpstring"], unfollowed := true, recurses := true, apart := false }
def TrieTellsSaid : Prop := trieTellsRow.holds Try.pinned (OpenSpec.ofChange trieTellsSpec)

/-- ITS FALSE NEIGHBOUR: 'it returns false'. Refute it at one input. -/
def trieTellsWrong : ChangeSpec := { name := "trieTells", fn := fun _ => fun
  | [d1, d2] => { results := [.lit (.bool false)], args := [d1, d2] }
  | _ => none }
def TrieTellsWrongFalsely : Prop := trieTellsRow.holds Try.pinned (OpenSpec.ofChange trieTellsWrong)

/-- 'repertorylaw24.TrieStates': WHATEVER THE INPUT: true; the input reads as it did. -/
def trieStatesSpec : ChangeSpec := { name := "trieStates", fn := fun _ => fun
  | [d] => { results := [.lit (.bool true)], args := [d] }
  | _ => none }
def trieStatesRow : OpenClaim := { program := "ytcpcghnpoekhpaa", sum := "82e9bb3c4d371279a1a8311298360bc182373885158efe94c9bd6ee6858410a8", func := "repertory/repertorylaw24.TrieStates", spec := "trieStates", inPlace := ["internal/bytealg.abigen_runtime_cmpstring"], unfollowed := true, recurses := true, apart := false }
def TrieStatesSaid : Prop := trieStatesRow.holds Try.pinned (OpenSpec.ofChange trieStatesSpec)

/-- ITS FALSE NEIGHBOUR: 'it returns false'. Refute it at one input. -/
def trieStatesWrong : ChangeSpec := { name := "trieStates", fn := fun _ => fun
  | [d] => { results := [.lit (.bool false)], args := [d] }
  | _ => none }
def TrieStatesWrongFalsely : Prop := trieStatesRow.holds Try.pinned (OpenSpec.ofChange trieStatesWrong)

/-- 'repertorylaw24.TrieRuns': WHATEVER THE INPUT: true; the input reads as it did. -/
def trieRunsSpec : ChangeSpec := { name := "trieRuns", fn := fun _ => fun
  | [d1, d2, d3, d4, d5] => { results := [.lit (.bool true)], args := [d1, d2, d3, d4, d5] }
  | _ => none }
def trieRunsRow : OpenClaim := { program := "ytcpcghnpoekhpaa", sum := "82e9bb3c4d371279a1a8311298360bc182373885158efe94c9bd6ee6858410a8", func := "repertory/repertorylaw24.TrieRuns", spec := "trieRuns", inPlace := ["internal/bytealg.abigen_runtime_cmpstring"], unfollowed := true, recurses := true, apart := false }
def TrieRunsSaid : Prop := trieRunsRow.holds Try.pinned (OpenSpec.ofChange trieRunsSpec)

/-- ITS FALSE NEIGHBOUR: 'it returns false'. Refute it at one input. -/
def trieRunsWrong : ChangeSpec := { name := "trieRuns", fn := fun _ => fun
  | [d1, d2, d3, d4, d5] => { results := [.lit (.bool false)], args := [d1, d2, d3, d4, d5] }
  | _ => none }
def TrieRunsWrongFalsely : Prop := trieRunsRow.holds Try.pinned (OpenSpec.ofChange trieRunsWrong)

/- THE SECOND FORM. 'bulk': how many values and letters a reading holds, each counted each time it is reached (what is shared counts as often as it is met; a slice's spare places count too). A statement '..UptoSaid' is the law's where the arguments, and the package variables that the reading takes, are together of bulk at most 1048576: NARROWER than '..Said'. Prove '..Said' where nothing that the law and all that it calls make is longer than what came in: it says more and counts as full. Else prove '..UptoSaid'. A law counts once. -/
mutual
def uptoBulk {H : Type} : DataW H → Nat
  | .lit (.string bytes) => bytes.length + 1
  | .lit _ => 1
  | .nil => 1
  | .ptr d => uptoBulk d + 1
  | .slice elems spare => uptoBulkAll elems + uptoBulkAll spare + 1
  | .agg parts => uptoBulkAll parts + 1
  | .iface _ d => uptoBulk d + 1
  | .map entries => uptoBulkEntries entries + 1
  | .held _ => 1
def uptoBulkAll {H : Type} : List (DataW H) → Nat
  | [] => 0
  | d :: r => uptoBulk d + uptoBulkAll r
def uptoBulkEntries {H : Type} : List (Lit × DataW H) → Nat
  | [] => 0
  | x :: r => uptoBulkEntry x + uptoBulkEntries r
def uptoBulkEntry {H : Type} : Lit × DataW H → Nat
  | (.string bytes, d) => bytes.length + uptoBulk d + 1
  | (_, d) => uptoBulk d + 1
 end
def uptoSmall : (H : Type) → List (DataW H) → Bool := fun _ ds => decide (uptoBulkAll ds ≤ 1048576)
def OpenSpec.upto (s : _root_.Go.ChangeSpec) : _root_.Go.OpenSpec := { _root_.Go.OpenSpec.ofChange s with cond := some uptoSmall }

/-- 'repertorylaw24.TrieTells', WHERE WHAT IT READS IS OF BULK AT MOST 1048576: true; the input reads as it did. -/
def trieTellsUptoRow : OpenClaim := { program := "ytcpcghnpoekhpaa", sum := "82e9bb3c4d371279a1a8311298360bc182373885158efe94c9bd6ee6858410a8", func := "repertory/repertorylaw24.TrieTells", spec := "trieTells", inPlace := ["internal/bytealg.abigen_runtime_cmpstring"], unfollowed := true, recurses := true, apart := false, narrowed := true }
def TrieTellsUptoSaid : Prop := trieTellsUptoRow.holds Try.pinned (OpenSpec.upto trieTellsSpec)

/-- 'repertorylaw24.TrieStates', WHERE WHAT IT READS IS OF BULK AT MOST 1048576: true; the input reads as it did. -/
def trieStatesUptoRow : OpenClaim := { program := "ytcpcghnpoekhpaa", sum := "82e9bb3c4d371279a1a8311298360bc182373885158efe94c9bd6ee6858410a8", func := "repertory/repertorylaw24.TrieStates", spec := "trieStates", inPlace := ["internal/bytealg.abigen_runtime_cmpstring"], unfollowed := true, recurses := true, apart := false, narrowed := true }
def TrieStatesUptoSaid : Prop := trieStatesUptoRow.holds Try.pinned (OpenSpec.upto trieStatesSpec)

/-- 'repertorylaw24.TrieRuns', WHERE WHAT IT READS IS OF BULK AT MOST 1048576: true; the input reads as it did. -/
def trieRunsUptoRow : OpenClaim := { program := "ytcpcghnpoekhpaa", sum := "82e9bb3c4d371279a1a8311298360bc182373885158efe94c9bd6ee6858410a8", func := "repertory/repertorylaw24.TrieRuns", spec := "trieRuns", inPlace := ["internal/bytealg.abigen_runtime_cmpstring"], unfollowed := true, recurses := true, apart := false, narrowed := true }
def TrieRunsUptoSaid : Prop := trieRunsUptoRow.holds Try.pinned (OpenSpec.upto trieRunsSpec)

end Rows
end Go.Proofs.Ytcpcghnpoekhpaa
