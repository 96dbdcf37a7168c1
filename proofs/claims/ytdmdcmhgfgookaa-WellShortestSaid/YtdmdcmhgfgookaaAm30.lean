/- The ghost machine, part 30: from a law's contract to what the row's frame asks. -/
import Derived.Test.YtdmdcmhgfgookaaAm29
set_option linter.unusedSimpArgs false
set_option linter.unusedVariables false
set_option maxRecDepth 100000
set_option maxHeartbeats 4000000
namespace Go.Proofs.Ytdmdcmhgfgookaa.A
open Go Go.RowKit
variable {P : Program} {T : TT}
theorem walk_of_pc {f : FuncId} {args : List Arg} {vs : List Value} {w : World} (h : PC P T f args (ret1 (.st (vB true))) []) (hr : ∀ x ∈ args, x.asRoot = .none) (S : Nat → Prop) (hlow : ∀ b, S b → b < w.heap.size)
    (hl : vs.length = args.length) (ha : ∀ i (h : i < args.length) (h2 : i < vs.length), ArgRep w S (fun _ => 0) 0 vs[i] args[i]) (hv : reals args = args.length := by rfl) (hg : Gnd w S := by first | exact trivial | assumption) :
    Calls P f vs.toArray w fun e w' => e = .returned (.bool true) ∧ Below w.heap.size w w' := by
  have hno : ∀ t κ b, ¬ owns (args.map Arg.asRoot) (fun _ => 0) (fun _ _ => default) t κ b := fun t κ b hb => by exact (owns_none _ _ _ (nones_getD args hr t) _ _ hb).elim
  have hh : Heap T w S (args.map Arg.asRoot) (fun _ => 0) (fun _ _ => default) := ⟨fun t => by rw [nones_getD args hr t]; trivial, fun t κ t' κ' b h => absurd h (hno t κ b), fun t κ b h => absurd h (hno t κ b), ⟨hlow, hg⟩⟩
  refine (h w S (fun _ => 0) (fun _ _ => default) vs hh (hl.trans hv.symm) ha).mono ?_
  rintro e w' ⟨v, S', bx', ph', rfl, g⟩
  refine ⟨?_, g.chg.below (Nat.le_refl _) fun k _ hk => ?_⟩
  · have h1 := g.heap.cell (t := 0) (o := 0) (rc := .st (vB true)) rfl
    have h2 : (ph' 0 0).v = .bool true := (crep_val h1).1
    have h3 : v = ph' 0 0 := by
      have := g.val
      unfold RetRep at this
      exact this.1.2
    rw [h3, h2]
  · obtain ⟨t, κ, hb⟩ := hk
    exact absurd hb (hno t κ k)
end Go.Proofs.Ytdmdcmhgfgookaa.A
