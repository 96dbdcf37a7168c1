/- ErrsFirst: the walk, as the row's step asks for it. -/
import Derived.Test.YtljnfejcdadjpaaDoorEr3
import Derived.Test.YtljnfejcdadjpaaDoorAm34
set_option linter.unusedSimpArgs false
set_option linter.unusedVariables false
namespace Go.Proofs.YtljnfejcdadjpaaDoor
open Go Go.RowKit
theorem ints_of (xs : List Int) : A.ints (xs.flatMap fun n => [A.vI n]) xs.length := by
  induction xs with
  | nil => exact ⟨rfl, fun k hk => absurd hk (by simp)⟩
  | cons x xs ih =>
    refine ⟨by rw [List.flatMap_cons, List.length_append, ih.1]; simp; omega, fun k hk => ?_⟩
    cases k with
    | zero => exact ⟨x, rfl⟩
    | succ k => exact ih.2 k (by simpa using hk)
theorem errsFirst_walk (w : World) (a : Option Addr) (len cap : Nat) (xs : List Int) (R : (RSl 1 8 RInt) w [.slice a len cap] xs) :
    Calls Tryd.prog 4 #[.slice a len cap] w fun e w' => e = .returned (.bool true) ∧ Below w.heap.size w w' := by
  obtain ⟨n, hn, hc⟩ := A.arg_sl A.rdc_int (fun _ => rfl) R
  have hb : n < 4611686018427387904 := by
    obtain ⟨a', cap', _, _, hle, hcap, _⟩ := R
    omega
  have hi := ints_of xs
  rw [hn] at hi
  exact A.walk_of_pc (vs := [.slice a len cap]) (A.pc_ErrsFirst _ n hi hb) (by simp [A.Arg.asRoot]) (fun b => b < w.heap.size) (fun _ h => h) rfl (fun i h h2 => by
    have h3 : i < 1 := h
    obtain rfl : i = 0 := by omega
    exact ⟨_, rfl, hc⟩)
end Go.Proofs.YtljnfejcdadjpaaDoor
