/- Lexing: all tokens, the plain law. -/
import Derived.Test.YtljnfejcdadjpaaLxA
set_option linter.unusedSimpArgs false
set_option linter.unusedVariables false
set_option maxRecDepth 100000
set_option maxHeartbeats 4000000
namespace Go.Proofs.Ytljnfejcdadjpaa.A
open Go
abbrev LxR := List Tk × Int × Int
def goOn (l : List Tk) (r : LxR) : LxR := if r.2.2 = 0 then (l ++ r.1, 0, 0) else r
theorem lexGo_skip {s : ByteArray} {i k : Nat} (h : skip s i = skip s k) : lexGo s i = lexGo s k := by
  rw [lexGo.eq_1 s i, lexGo.eq_1 s k, h]
theorem lexGo_end {s : ByteArray} {i : Nat} (h : ¬ skip s i < s.size) : lexGo s i = ([], 0, 0) := by
  rw [lexGo, dif_neg h]
theorem lexGo_bad {s : ByteArray} {i : Nat} (h : skip s i = i) (hi : i < s.size) (he : (tokAt s i).2.2 ≠ 0) : lexGo s i = ([], (i : Int), (tokAt s i).2.2) := by
  rw [lexGo, dif_pos (by rw [h]; exact hi), dif_neg (by rw [h]; exact he), h]
theorem lexGo_tok {s : ByteArray} {i : Nat} (h : skip s i = i) (hi : i < s.size) (he : (tokAt s i).2.2 = 0) : lexGo s i = goOn [(tokAt s i).1] (lexGo s (tokAt s i).2.1) := by
  rw [lexGo, dif_pos (by rw [h]; exact hi), dif_pos (by rw [h]; exact he), h]
  unfold goOn
  dsimp only
  split <;> rfl
theorem goOn_nil {s : ByteArray} {i : Nat} : goOn [] (lexGo s i) = lexGo s i := by
  unfold goOn
  split
  · rename_i h
    have : ∀ n i, s.size - i = n → (lexGo s i).2.2 = 0 → (lexGo s i).2.1 = 0 := by
      intro n
      induction n using Nat.strongRecOn with
      | _ n ih =>
        intro i hn h
        rw [lexGo] at h ⊢
        split at h
        · rename_i h1
          split at h
          · rename_i h2
            rw [dif_pos h1, dif_pos h2]
            dsimp only at h ⊢
            split at h
            · rename_i h3; rw [if_pos h3]
            · rename_i h3; exact absurd h h3
          · rename_i h2; exact absurd h h2
        · rename_i h1; rw [dif_neg h1]
    have h1 := this _ i rfl h
    rw [List.nil_append]
    exact Prod.ext rfl (Prod.ext h1.symm h.symm)
  · rfl
theorem goOn_goOn (l m : List Tk) (r : LxR) : goOn l (goOn m r) = goOn (l ++ m) r := by
  unfold goOn
  by_cases h : r.2.2 = 0
  · simp [h]
  · simp [h]
def tkCells (l : List Tk) : List C := l.flatMap fun t => [vI t.1, vS t.2.1, vI t.2.2]
theorem tkCells_snoc (l : List Tk) (t : Tk) : tkCells (l ++ [t]) = tkCells l ++ [vI t.1, vS t.2.1, vI t.2.2] := by simp [tkCells]
def lxN (s : ByteArray) : Nat := (lexGo s 0).1.length
def lxC (s : ByteArray) : List C := tkCells (lexGo s 0).1
def lxA (s : ByteArray) : Int := (lexGo s 0).2.1
def lxE (s : ByteArray) : Int := (lexGo s 0).2.2
/-- where the loops of both stand: the tokens so far, and the place -/
def LxI (s : ByteArray) (n : Nat) (cs : List C) (i : Int) : Prop := ∃ l : List Tk, n = l.length ∧ cs = tkCells l ∧ 0 ≤ i ∧ i ≤ s.size ∧ (l.length : Int) ≤ i ∧ lexGo s 0 = goOn l (lexGo s i.toNat)
theorem LxI.start (s : ByteArray) : LxI s 0 [] 0 := ⟨[], rfl, rfl, by omega, by omega, by simp, goOn_nil.symm⟩
theorem LxI.hop {s : ByteArray} {n : Nat} {cs : List C} {i k : Int} (h : LxI s n cs i) (hk : i ≤ k) (hk2 : k ≤ s.size) (hs : skipI s k = skipI s i) : LxI s n cs k := by
  obtain ⟨l, h1, h2, h3, h4, h5, h6⟩ := h
  refine ⟨l, h1, h2, by omega, hk2, by omega, ?_⟩
  rw [h6, lexGo_skip (i := k.toNat) (k := i.toNat)]
  unfold skipI at hs; omega
theorem LxI.tok {s : ByteArray} {n : Nat} {cs : List C} {i : Int} (h : LxI s n cs i) (hi : i < s.size) (hs : skipI s i = i) (he : tkE s i = 0) : LxI s (n + 1) (cs ++ [vI (tkK s i), vS (tkT s i), vI (tkW s i)]) (tkN s i) ∧ i < tkN s i ∧ tkN s i ≤ s.size := by
  obtain ⟨l, h1, h2, h3, h4, h5, h6⟩ := h
  have hsk : skip s i.toNat = i.toNat := by unfold skipI at hs; omega
  have he' : (tokAt s i.toNat).2.2 = 0 := he
  have h7 := tokAt_end (s := s) (i := i.toNat) (by omega) he'
  have hn : tkN s i = ((tokAt s i.toNat).2.1 : Nat) := rfl
  refine ⟨⟨l ++ [(tokAt s i.toNat).1], by simp [h1], by rw [tkCells_snoc, h2]; rfl, by omega, by omega, by simp; omega, ?_⟩, by omega, by omega⟩
  rw [h6, lexGo_tok hsk (by omega) he', goOn_goOn, hn, Int.toNat_natCast]
theorem LxI.bad {s : ByteArray} {n : Nat} {cs : List C} {i : Int} (h : LxI s n cs i) (hi : i < s.size) (hs : skipI s i = i) (he : ¬ tkE s i = 0) : lxN s = 0 ∧ lxC s = [] ∧ lxA s = i ∧ lxE s = tkE s i := by
  obtain ⟨l, h1, h2, h3, h4, h5, h6⟩ := h
  have hsk : skip s i.toNat = i.toNat := by unfold skipI at hs; omega
  have h7 := lexGo_bad hsk (by omega) he
  have h8 : lexGo s 0 = ([], (i.toNat : Int), (tokAt s i.toNat).2.2) := by rw [h6, h7]; exact if_neg he
  refine ⟨?_, ?_, ?_, ?_⟩
  · unfold lxN; rw [h8]; rfl
  · unfold lxC; rw [h8]; rfl
  · unfold lxA; rw [h8]; show (i.toNat : Int) = i; omega
  · unfold lxE; rw [h8]; rfl
theorem LxI.done {s : ByteArray} {n : Nat} {cs : List C} {i : Int} (h : LxI s n cs i) (hi : ¬ i < s.size) : lxN s = n ∧ lxC s = cs ∧ lxA s = 0 ∧ lxE s = 0 := by
  obtain ⟨l, h1, h2, h3, h4, h5, h6⟩ := h
  have h7 := lexGo_end (s := s) (i := i.toNat) (by have := skip_ge s i.toNat; omega)
  have h8 : lexGo s 0 = (l, 0, 0) := by rw [h6, h7]; simp [goOn]
  refine ⟨?_, ?_, ?_, ?_⟩
  · unfold lxN; rw [h8, h1]
  · unfold lxC; rw [h8, h2]
  · unfold lxA; rw [h8]
  · unfold lxE; rw [h8]
end Go.Proofs.Ytljnfejcdadjpaa.A
