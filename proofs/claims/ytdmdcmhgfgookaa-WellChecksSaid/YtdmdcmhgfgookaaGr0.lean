/- Grammars as cells. -/
import Derived.Test.YtdmdcmhgfgookaaLi2
set_option linter.unusedSimpArgs false
set_option linter.unusedVariables false
set_option maxRecDepth 100000
set_option maxHeartbeats 4000000
namespace Go.Proofs.Ytdmdcmhgfgookaa.A
open Go
/-- a rule: its left side, its right side -/
abbrev Rl := Int × List Int
def rC (l : List Rl) : List C := l.flatMap fun r => [vI r.1, (C.sl (nI r.2) (iC r.2))]
def nR (l : List Rl) : Nat := l.foldr (fun _ n => n + 1) 0
theorem nR_eq (l : List Rl) : nR l = l.length := by unfold nR; induction l with | nil => rfl | cons x l ih => rw [List.foldr_cons, ih]; rfl
abbrev rAt (l : List Rl) (k : Nat) : Rl := l.getD k (0, [])
theorem rC_cons (r : Rl) (l : List Rl) : rC (r :: l) = vI r.1 :: (C.sl (nI r.2) (iC r.2)) :: rC l := rfl
theorem rC_len (l : List Rl) : (rC l).length = nR l * 2 := by
  rw [nR_eq]
  induction l with
  | nil => rfl
  | cons r l ih => rw [rC_cons, List.length_cons, List.length_cons, ih, List.length_cons]; omega
theorem rC_at : ∀ (l : List Rl) (k : Nat), k < l.length → cellAt (rC l) (k * 2) = vI (rAt l k).1 ∧ cellAt (rC l) (k * 2 + 1) = (C.sl (nI ((rAt l k).2)) (iC ((rAt l k).2))) := by
  intro l
  induction l with
  | nil => intro k h; exact absurd h (by simp)
  | cons r l ih =>
    intro k h
    cases k with
    | zero => exact ⟨rfl, rfl⟩
    | succ k =>
      have := ih k (by simpa using h)
      rw [show (k + 1) * 2 = k * 2 + 1 + 1 by omega, rC_cons]
      exact this
theorem rC_out {l : List Rl} {k : Nat} (h : ¬ k < l.length) : cellAt (rC l) (k * 2) = .nil ∧ cellAt (rC l) (k * 2 + 1) = .nil := by
  have hl := rC_len l
  have hn := nR_eq l
  unfold cellAt
  rw [List.getD_eq_getElem?_getD, List.getD_eq_getElem?_getD, List.getElem?_eq_none (by omega), List.getElem?_eq_none (by omega)]
  exact ⟨rfl, rfl⟩
theorem rAt_out {l : List Rl} {k : Nat} (h : ¬ k < l.length) : rAt l k = (0, []) := by
  rw [rAt, List.getD_eq_getElem?_getD, List.getElem?_eq_none (by omega)]; rfl
theorem gi_rC (l : List Rl) (k : Nat) : gi (cellAt (rC l) (k * 2)) = (rAt l k).1 := by
  by_cases h : k < l.length
  · rw [(rC_at l k h).1]; rfl
  · rw [(rC_out h).1, rAt_out h]; rfl
theorem gn_rC (l : List Rl) (k : Nat) : gn (cellAt (rC l) (k * 2 + 1)) = nI (rAt l k).2 := by
  by_cases h : k < l.length
  · rw [(rC_at l k h).2]; rfl
  · rw [(rC_out h).2, rAt_out h]; rfl
theorem gc_rC (l : List Rl) (k : Nat) : gc (cellAt (rC l) (k * 2 + 1)) = iC (rAt l k).2 := by
  by_cases h : k < l.length
  · rw [(rC_at l k h).2]; rfl
  · rw [(rC_out h).2, rAt_out h]; rfl
theorem ok_rC0 {l : List Rl} {k : Nat} (h : k < l.length) : okK (.int .i64) (cellAt (rC l) (k * 2)) := by rw [(rC_at l k h).1]; exact ⟨_, rfl⟩
theorem ok_rC1 {l : List Rl} {k : Nat} (h : k < l.length) : okK .sl (cellAt (rC l) (k * 2 + 1)) := by rw [(rC_at l k h).2]; exact .inr ⟨_, _, rfl⟩
theorem rC_snoc (l : List Rl) (a : Int) (b : List Int) : rC l ++ [vI a, (C.sl (nI b) (iC b))] = rC (l ++ [(a, b)]) := by simp [rC]
theorem rC_take (l : List Rl) : ∀ k, extC (rC l) 0 (k * 2) = rC (l.take k) := by
  induction l with
  | nil => intro k; simp [rC, extC]
  | cons r l ih =>
    intro k
    cases k with
    | zero => simp [rC, extC]
    | succ k =>
      have := ih k
      rw [show (k + 1) * 2 = k * 2 + 1 + 1 by omega, rC_cons, List.take_succ_cons, rC_cons]
      unfold extC at this ⊢
      simp only [List.take_succ_cons, List.drop_zero] at this ⊢
      rw [this]
/-- back from cells -/
def intsOf (cs : List C) : List Int := cs.map gi
theorem intsOf_iC (l : List Int) : intsOf (iC l) = l := by unfold intsOf iC; rw [List.map_map]; exact List.map_id' l
def rlsGo : List C → List Rl
  | a :: b :: r => (gi a, intsOf (gc b)) :: rlsGo r
  | _ => []
def rlsOf (cs : List C) : List Rl := rlsGo cs
theorem rlsOf_rC (l : List Rl) : rlsOf (rC l) = l := by
  unfold rlsOf
  induction l with
  | nil => rfl
  | cons r l ih =>
    rw [rC_cons, rlsGo, ih]
    show (r.1, intsOf (iC r.2)) :: l = _
    rw [intsOf_iC]
end Go.Proofs.Ytdmdcmhgfgookaa.A
