/- The ghost machine: contracts of the kit for functions that give a plain value. -/
import Derived.Test.YtljnfejcdadjpaaDoorAm32
set_option linter.unusedSimpArgs false
set_option linter.unusedVariables false
set_option maxRecDepth 100000
set_option maxHeartbeats 4000000
namespace Go.Proofs.YtljnfejcdadjpaaDoor.A
open Go Go.RowKit
variable {P : Program} {T : TT}
theorem pc_of_calls {f : FuncId} {args : List Arg} {v : Value} (hp : plain v = true) (h : ∀ (w : World) (S : Nat → Prop) (bx : Nat → Nat) (vs : List Value), LowG w S → vs.length = reals args → (∀ i (h : i < args.length) (h2 : i < vs.length), ArgRep w S bx (bx i) vs[i] args[i]) →
    Calls P f vs.toArray w fun e w' => e = .returned v ∧ Chg (fun _ => False) w w') : PC P T f args (ret1 (.st (.val v))) [] := by
  intro w S bx ph vs hheap hl ha
  refine (h w S bx vs hheap.low hl ha).mono ?_
  rintro e w' ⟨rfl, hc⟩
  have hS : ∀ b, S b → w'.heap[b]? = w.heap[b]? := fun b hb => hc.block b (hheap.low.1 b hb) id
  have hg : ∀ t, ([Root.loose [.st (.val v)]] : List Root).getD (t + 1) .none = .none := fun t => by simp
  have hno : ∀ t κ b, owns (Root.loose [.st (.val v)] :: []) (fun i => if i = 0 then 0 else bx (i - 1)) (fun t _ => if t = 0 then v else undef) t κ ≠ some b := fun t κ b hb => by
    cases t with
    | succ t => rw [owns_none _ _ _ (hg t)] at hb; cases hb
    | zero =>
      cases κ with
      | none => obtain ⟨row, h1, _⟩ := owns_box hb; cases h1
      | some o =>
        obtain ⟨rc, h1, h2⟩ := owns_cell hb
        cases o with
        | zero => cases h1; cases h2
        | succ o => cases h1
  refine ⟨v, S, fun i => if i = 0 then 0 else bx (i - 1), fun t _ => if t = 0 then v else undef, rfl, ⟨?_, ?_, fun i => by simp, fun b h => h, fun b h => .inl h, fun t κ b hb => absurd hb (hno t κ b), ?_⟩⟩
  · refine ⟨fun t => ?_, fun t κ t' κ' b hb => absurd hb (hno t κ b), fun t κ b hb => absurd hb (hno t κ b), ⟨fun b hb => Nat.lt_of_lt_of_le (hheap.low.1 b hb) hc.size, hheap.low.2.frame hS fun _ h => h⟩⟩
    cases t with
    | succ t => show RootRep T w' S _ _ (([Root.loose [.st (.val v)]] : List Root).getD (t + 1) .none); rw [hg]; trivial
    | zero =>
      intro o ho
      have ho' : o < 1 := ho
      obtain rfl : o = 0 := by omega
      exact .val hp
  · show RetRep _ v (ret1 (.st (.val v)))
    unfold RetRep
    rw [if_neg (by simp [ret1])]
    exact ⟨by unfold PartVal; rw [if_neg (by simp)]; exact ⟨rfl, rfl⟩, trivial⟩
  · exact hc.mono fun _ _ h => h.elim
end Go.Proofs.YtljnfejcdadjpaaDoor.A
