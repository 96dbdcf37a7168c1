/- WsetLimit: the walk, as the row's step asks for it. -/
import Derived.Test.YtkkieddebnhpcaaWsLimit
import Derived.Test.YtkkieddebnhpcaaAm34
set_option linter.unusedSimpArgs false
set_option linter.unusedVariables false
set_option maxRecDepth 100000
set_option maxHeartbeats 4000000
namespace Go.Proofs.Ytkkieddebnhpcaa
open Go Go.RowKit
theorem wsetLimit_walk (w : World) (a0 : Int) (_ : -9223372036854775808 ≤ a0 ∧ a0 ≤ 9223372036854775807) (a1 : Int) (_ : -9223372036854775808 ≤ a1 ∧ a1 ≤ 9223372036854775807) :
    Calls Try.prog 4 #[.int .i64 a0, .int .i64 a1] w fun e w' => e = .returned (.bool true) ∧ Below w.heap.size w w' := by
  exact A.walk_of_pc (vs := [.int .i64 a0, .int .i64 a1]) (A.pc_WsetLimit a0 a1 ) (by simp [A.Arg.asRoot]) (fun b => b < w.heap.size) (fun _ h => h) rfl (fun i h h2 => by
    have h3 : i < 2 := h
    match i, h3 with
    | 0, _ => exact ⟨_, rfl, .val rfl⟩
    | 1, _ => exact ⟨_, rfl, .val rfl⟩)
end Go.Proofs.Ytkkieddebnhpcaa
