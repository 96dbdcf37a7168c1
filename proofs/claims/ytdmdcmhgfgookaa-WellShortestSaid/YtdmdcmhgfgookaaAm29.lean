/- The ghost machine, part 29: loops by a state with parameters; sums that do not wrap. -/
import Derived.Test.YtdmdcmhgfgookaaAm28
set_option linter.unusedSimpArgs false
set_option linter.unusedVariables false
set_option maxRecDepth 100000
set_option maxHeartbeats 4000000
namespace Go.Proofs.Ytdmdcmhgfgookaa.A
open Go Go.RowKit
variable {P : Program} {T : TT} {st : St} {Q : Exit → St → Prop}

def slotsOf (n : Nat) (l : List (Nat × V)) : List V := (List.range n).map fun i => (look l i).getD .undef
/-- n slots, of which these hold something; these roots -/
def stOf (n : Nat) (l : List (Nat × V)) (rs : List (Nat × Root)) : St := ⟨slotsOf n l, (List.range (n + 1)).map fun i => (look rs i).getD .none⟩
/-- with the roots that came in -/
def stOfR (n : Nat) (l : List (Nat × V)) (rs : List (Nat × Root)) (outs : List Root) : St := ⟨slotsOf n l, (List.range (n + 1)).map (fun i => (look rs i).getD .none) ++ outs⟩
theorem aw_lpj {c : Code} {j : J} (hj : j = std P T) (ks : List (Nat × KS)) (bs : List Nat) {α : Type} (F : α → St) (μ : α → Nat) (I : α → Prop) (a0 : α) (h0 : canon T j ks bs st = some (F a0)) (hI : I a0)
    (round : ∀ a, I a → Aw P T c (Th (fun st' => ∃ a', canon T j ks bs st' = some (F a') ∧ I a' ∧ μ a' < μ a) Q) (F a)) : Aw P T (.loop c) Q st := by
  rw [hj] at h0
  refine aw_loop (fun m st => ∃ a, st = F a ∧ I a ∧ μ a = m) (canon_le h0) ⟨a0, rfl, hI, rfl⟩ fun m st ⟨a, h1, h2, h3⟩ => ?_
  subst h1
  refine (round a h2).mono fun e st' hq => ?_
  cases e <;> first | exact hq | (
    obtain ⟨a', h4, h5, h6⟩ := hq
    rw [hj] at h4
    exact ⟨_, _, canon_le h4, h3 ▸ h6, a', rfl, h5, rfl⟩)
/-- a state's cells, looked at by a law: what follows from here does not need more -/
theorem forgetj {c : Code} {j : J} (hj : j = std P T) (ks : List (Nat × KS)) (bs : List Nat) {st1 : St} (h : canon T j ks bs st = some st1) (k : Aw P T c Q st1) : Aw P T c Q st := by
  rw [hj] at h
  exact aw_le (canon_le h) k

/-- nil, where the contract speaks of a slice that is made -/
theorem ret_oknil {j : J} (hj : j = std P T) (e : TypeId) {fn : Func} {ret : RV} {vs : List V} {row : List RC} {obl : List Prop} (h : retOf T j fn.results.toList st = some (vs, .st .nil :: row, obl)) (ho : ∀ p ∈ obl, p) (he : ret = ⟨decide (fn.results.size ≠ 1), splitRow vs (.own e 0 [] :: row)⟩) {N : Nat} : RetOk P T fn st ret [] N := by
  rw [hj] at h
  exact ⟨⟨vs, _, obl, _, h, ho, .cons (.nil_own e) (LeRow.refl _), he⟩, .inl rfl⟩
theorem wrap64 {n : Int} (h1 : -9223372036854775808 ≤ n) (h2 : n ≤ 9223372036854775807) : IntKind.wrap .i64 n = n := by
  simp [IntKind.wrap, IntKind.bits, IntKind.signed]
  omega
theorem add64 {a b : Int} (h1 : -9223372036854775808 ≤ a + b) (h2 : a + b ≤ 9223372036854775807) : arithI .add .i64 a b = a + b := wrap64 h1 h2
theorem sub64 {a b : Int} (h1 : -9223372036854775808 ≤ a - b) (h2 : a - b ≤ 9223372036854775807) : arithI .sub .i64 a b = a - b := wrap64 h1 h2
end Go.Proofs.Ytdmdcmhgfgookaa.A
