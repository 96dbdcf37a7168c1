/- A region that draws its order, by hand: what yields in every world that meets S is taken first, the rest is carried out where it alone may come up. No program in sight. -/
import Derived.Deep.RegionHeld3
import Derived.NoCompiler
namespace Go.Proofs.Ytojonlkiokejoaa
section
variable {P : Program} {ops : Array Oper} {Q : Exit → Act → World → Prop} {S : World → Prop} {fuel : Nat} {listed : Array Bool} {a : Act} {w : World}
theorem at_list {ops : Array Oper} {i : Nat} {o : Oper} (h : ops.toList[i]? = some o) : ops[i]? = some o := by rw [← h]; simp
theorem H_take (i : Nat) {oi : Oper} (d : Option Tmp) {v : Value} (hi : ops.toList[i]? = some oi) (hd : oi.dst = d)
    (hs : Region.noSelect ops = true) (hf : Region.free .any ops listed i = true) (hr : (Region.ready .any ops listed).contains i = true)
    (hQ : ∀ c a w, Q (.panic c) (a.put d v) w → Q (.panic c) a w) (hg : Region.wanted oi (yielded ops a.tmps) = true) (hS : S w) (hy : ∀ w, S w → (execOp a.eval oi).run P w = .ok (.value v) w)
    (h : wpAnyH P .any ops Q S fuel (listed.setIfInBounds i true) (a.put d v) w) : wpAnyH P .any ops Q S (fuel + 1) listed a w := by
  subst hd
  exact wpAnyH_take (at_list hi) hs hf hr hQ (.inl ⟨hg, hy⟩) hS h
theorem H_pass (i : Nat) {oi : Oper} (d : Option Tmp) (hi : ops.toList[i]? = some oi) (hd : oi.dst = d)
    (hs : Region.noSelect ops = true) (hf : Region.free .any ops listed i = true) (hr : (Region.ready .any ops listed).contains i = true)
    (hQ : ∀ c a w, Q (.panic c) (a.put d undef) w → Q (.panic c) a w) (hg : Region.wanted oi (yielded ops a.tmps) = false) (hS : S w)
    (h : wpAnyH P .any ops Q S fuel (listed.setIfInBounds i true) (a.put d undef) w) : wpAnyH P .any ops Q S (fuel + 1) listed a w := by
  subst hd
  exact wpAnyH_take (at_list hi) hs hf hr hQ (.inr ⟨hg, rfl⟩) hS h
theorem H_run (i : Nat) {oi : Oper} (d : Option Tmp) (hi : ops.toList[i]? = some oi) (hd : oi.dst = d) (hr : Region.ready .any ops listed = [i]) (hg : Region.wanted oi (yielded ops a.tmps) = true)
    (h : ∀ K : Act → World → Prop, Shut (∀ v w, S w → (S w → wpAnyH P .any ops Q S fuel (listed.setIfInBounds i true) (a.put d v) w) → K (a.put d v) w) → Oper.wp P oi a w K Q) : wpAnyH P .any ops Q S (fuel + 1) listed a w := by
  subst hd
  refine wpAnyH_ready (rs := [i]) hr (by simp) (AllReadyH.cons (at_list hi) (fun K hK => ?_) AllReadyH.nil)
  rw [if_pos hg]
  exact h K (fun v w h1 h2 => hK.out _ _ h1 h2)
end
end Go.Proofs.Ytojonlkiokejoaa
