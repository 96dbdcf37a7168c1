/- Lists as cells: back from cells; from place to place. -/
import Derived.Test.YtdmdcmhgfgookaaLi
set_option linter.unusedSimpArgs false
set_option linter.unusedVariables false
set_option maxRecDepth 100000
set_option maxHeartbeats 4000000
namespace Go.Proofs.Ytdmdcmhgfgookaa.A
open Go
/-- the strings of cells -/
def strsOf (cs : List C) : List ByteArray := cs.map gs
theorem strsOf_sC (l : List ByteArray) : strsOf (sC l) = l := by
  unfold strsOf sC; rw [List.map_map]
  conv => rhs; rw [← List.map_id l]
  rfl
variable {P : Program} {T : TT} {Q : Exit → St → Prop} {st : St}
theorem aw_retz {j : J} (hj : j = std P T) (ks : List (Nat × KS)) {st1 : St} (h : canon T j ks [] st = some st1) (k : Q .ret st1) : Aw P T .ret Q st := forgetj hj ks [] h (aw_ret k)
theorem r1sl {l : List ByteArray} {n : Nat} {cs : List C} (h1 : n = nS l) (h2 : cs = sC l) : ret1 (.st (.sl (nS l) (sC l))) = ⟨false, [(false, [.st (.sl n cs)])]⟩ := by rw [h1, h2]; rfl
/-! ### from place to place -/
theorem drop_step (l : List ByteArray) (i : Int) (h0 : 0 ≤ i) (h : i < nS l) : l.drop i.toNat = sAt l i.toNat :: l.drop (i + 1).toNat := by
  have hn := nS_eq l
  have e : (i + 1).toNat = i.toNat + 1 := by omega
  rw [e]; exact drop_cons _ (by omega)
theorem drop_fin (l : List ByteArray) (i : Int) (h : ¬ i < nS l) : l.drop i.toNat = [] := by
  have hn := nS_eq l
  exact List.drop_eq_nil_of_le (by omega)
theorem take_step (l : List ByteArray) (i : Int) (h0 : 0 ≤ i) (h : i < nS l) : l.take (i + 1).toNat = l.take i.toNat ++ [sAt l i.toNat] := by
  have hn := nS_eq l
  have e : (i + 1).toNat = i.toNat + 1 := by omega
  rw [e]; exact take_snoc _ (by omega)
theorem take_fin (l : List ByteArray) (i : Int) (h : ¬ i < nS l) : l.take i.toNat = l := by
  have hn := nS_eq l
  exact List.take_of_length_le (by omega)
theorem sAt_mem (l : List ByteArray) (i : Int) (h0 : 0 ≤ i) (h : i < nS l) : sAt l i.toNat ∈ l := by
  have hn := nS_eq l
  exact getD_mem _ (by omega)
theorem ext_sAt {l m : List ByteArray} (h : nS l = nS m) (k : ∀ n : Nat, n < nS l → sAt l n = sAt m n) : l = m := by
  have h1 := nS_eq l; have h2 := nS_eq m
  apply List.ext_getElem (by omega)
  intro i a b
  have := k i (by omega)
  rw [sAt, sAt, List.getD_eq_getElem?_getD, List.getD_eq_getElem?_getD, List.getElem?_eq_getElem a, List.getElem?_eq_getElem b] at this
  exact this
/-- where it is first, or -1 -/
def idxGo (w : ByteArray) : List ByteArray → Int → Int
  | [], _ => -1
  | x :: l, i => if w = x then i else idxGo w l (i + 1)
def idxS (l : List ByteArray) (w : ByteArray) : Int := idxGo w l 0
theorem idxGo_has (w : ByteArray) (l : List ByteArray) (i : Int) (hi : 0 ≤ i) : decide (idxGo w l i ≥ 0) = hasS l w := by
  induction l generalizing i with
  | nil => rfl
  | cons x l ih =>
    unfold idxGo
    have e : hasS (x :: l) w = (decide (x = w) || hasS l w) := by unfold hasS; rfl
    rw [e]
    split
    · rename_i h; subst h; simp [hi]
    · rename_i h
      rw [ih (i + 1) (by omega)]
      have : ¬ x = w := fun e => h e.symm
      simp [this]
theorem idx_has (l : List ByteArray) (w : ByteArray) : decide (idxS l w ≥ 0) = hasS l w := idxGo_has w l 0 (by omega)
def sameS (l m : List ByteArray) : Bool := decide (l = m)
theorem sameS_yes {l m : List ByteArray} (h : nS l = nS m) (k : ∀ n : Nat, n < nS l → sAt l n = sAt m n) : sameS l m = true := by unfold sameS; rw [decide_eq_true_eq]; exact ext_sAt h k
theorem sameS_no {l m : List ByteArray} (h : nS l ≠ nS m ∨ ∃ n : Nat, sAt l n ≠ sAt m n) : sameS l m = false := by
  unfold sameS; rw [decide_eq_false_iff_not]; rintro rfl
  rcases h with h | ⟨n, h⟩
  · exact h rfl
  · exact h rfl
theorem sameS_self (l : List ByteArray) : sameS l l = true := by unfold sameS; simp
end Go.Proofs.Ytdmdcmhgfgookaa.A
