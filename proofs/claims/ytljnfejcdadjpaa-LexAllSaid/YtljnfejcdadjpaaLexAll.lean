/- LexAll: the walk, as the row's step asks for it. -/
import Derived.Test.YtljnfejcdadjpaaLx13
namespace Go.Proofs.Ytljnfejcdadjpaa
open Go Go.RowKit
theorem lexAll_walk (w : World) (s : ByteArray) (_ : s.size ≤ 140737488351232) : Calls Try.prog 3 #[.string s] w fun e w' => e = .returned (.bool true) ∧ Below w.heap.size w w' :=
  A.walk_of_pc (vs := [.string s]) (A.pc_LexAll s) (by simp [A.Arg.asRoot]) (fun _ => False) (fun _ h => h.elim) rfl (fun i h h2 => by
    have h3 : i < 1 := h
    obtain rfl : i = 0 := by omega
    exact ⟨_, rfl, .val rfl⟩)
end Go.Proofs.Ytljnfejcdadjpaa
