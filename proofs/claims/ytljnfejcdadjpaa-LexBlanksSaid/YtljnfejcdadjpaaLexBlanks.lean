/- LexBlanks: the walk, as the row's step asks for it. -/
import Derived.Test.YtljnfejcdadjpaaLx16
set_option linter.unusedSimpArgs false
set_option linter.unusedVariables false
set_option maxRecDepth 100000
set_option maxHeartbeats 4000000
namespace Go.Proofs.Ytljnfejcdadjpaa
open Go Go.RowKit
theorem lexBlanks_walk (w : World) (a : ByteArray) (_ : a.size ≤ 140737488351232) (b : ByteArray) (_ : b.size ≤ 140737488351232) (r : ByteArray) (_ : r.size ≤ 140737488351232) : Calls Try.prog 4 #[.string a, .string b, .string r] w fun e w' => e = .returned (.bool true) ∧ Below w.heap.size w w' :=
  A.walk_of_pc (vs := [.string a, .string b, .string r]) (A.pc_LexBlanks a b r) (by simp [A.Arg.asRoot]) (fun _ => False) (fun _ h => h.elim) rfl (fun i h h2 => by
    have h3 : i < 3 := h
    match i, h3 with
    | 0, _ => exact ⟨_, rfl, .val rfl⟩
    | 1, _ => exact ⟨_, rfl, .val rfl⟩
    | 2, _ => exact ⟨_, rfl, .val rfl⟩)
end Go.Proofs.Ytljnfejcdadjpaa
