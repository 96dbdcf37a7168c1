/- ErrsParses: the walk, as the row's step asks for it. -/
import Derived.Test.YtljnfejcdadjpaaDoorEr5
import Derived.Test.YtljnfejcdadjpaaDoorAm34
set_option linter.unusedSimpArgs false
set_option linter.unusedVariables false
namespace Go.Proofs.YtljnfejcdadjpaaDoor
open Go Go.RowKit
theorem errsParses_walk (w : World) (s : ByteArray) (_ : s.size ≤ 140737488351232) : Calls Tryd.prog 3 #[.string s] w fun e w' => e = .returned (.bool true) ∧ Below w.heap.size w w' :=
  A.walk_of_pc (vs := [.string s]) (A.pc_ErrsParses s) (by simp [A.Arg.asRoot]) (fun _ => False) (fun _ h => h.elim) rfl (fun i h h2 => by
    have h3 : i < 1 := h
    obtain rfl : i = 0 := by omega
    exact ⟨_, rfl, .val rfl⟩)
end Go.Proofs.YtljnfejcdadjpaaDoor
