/- Lexing: tokens of literals, by fuel; cells of a list of tokens. -/
import Derived.Test.YtljnfejcdadjpaaLx7
set_option linter.unusedSimpArgs false
set_option linter.unusedVariables false
set_option maxRecDepth 100000
set_option maxHeartbeats 4000000
namespace Go.Proofs.Ytljnfejcdadjpaa.A
open Go
theorem skip_skip9 (s : ByteArray) (i : Nat) : skip s (skip s i) = skip s i := by
  by_cases h : i < s.size
  · by_cases hb : isBlankN (bt s i) = true
    · have e : skip s i = skip s (i + 1) := by rw [skip, dif_pos h, if_pos hb]
      rw [e]; exact skip_skip9 s (i + 1)
    · by_cases hc : bt s i = 35
      · have h2 : i < span (fun c => !decide (c = 10)) s i := span_gt h (by simp [hc])
        have h3 : span (fun c => !decide (c = 10)) s i ≤ s.size := span_le _ s i (by omega)
        have e : skip s i = skip s (span (fun c => !decide (c = 10)) s i) := by rw [skip, dif_pos h, if_neg hb, dif_pos hc]
        rw [e]; exact skip_skip9 s _
      · have e : skip s i = i := by rw [skip, dif_pos h, if_neg hb, dif_neg hc]
        rw [e, e]
  · have e : skip s i = i := by rw [skip, dif_neg h]
    rw [e, e]
termination_by s.size - i
def spanF (p : Nat → Bool) (s : ByteArray) : Nat → Nat → Nat
  | 0, i => i
  | n + 1, i => if i < s.size ∧ p (bt s i) = true then spanF p s n (i + 1) else i
theorem spanF_eq (p : Nat → Bool) (s : ByteArray) : ∀ n i, s.size - i ≤ n → spanF p s n i = span p s i := by
  intro n
  induction n with
  | zero =>
    intro i h
    rw [span_stop (p := p) (i := i) (fun hh => by have := hh.1; omega)]
    rfl
  | succ n ih =>
    intro i h
    unfold spanF
    split
    · rename_i hh; rw [span_step hh.1 hh.2, ih _ (by omega)]
    · rename_i hh; rw [span_stop hh]
def skipF (s : ByteArray) : Nat → Nat → Nat
  | 0, i => i
  | n + 1, i => if i < s.size then if isBlankN (bt s i) = true then skipF s n (i + 1) else if bt s i = 35 then skipF s n (spanF (fun c => !decide (c = 10)) s s.size i) else i else i
theorem skipF_eq (s : ByteArray) : ∀ n i, s.size - i ≤ n → skipF s n i = skip s i := by
  intro n
  induction n with
  | zero => intro i h; rw [skip, dif_neg (by omega)]; rfl
  | succ n ih =>
    intro i h
    unfold skipF
    rw [skip]
    by_cases h1 : i < s.size
    · rw [if_pos h1, dif_pos h1]
      by_cases hb : isBlankN (bt s i) = true
      · rw [if_pos hb, if_pos hb, ih _ (by omega)]
      · rw [if_neg hb, if_neg hb]
        by_cases hc : bt s i = 35
        · rw [if_pos hc, dif_pos hc]
          have h2 : i < span (fun c => !decide (c = 10)) s i := span_gt h1 (by simp [hc])
          rw [spanF_eq _ _ _ _ (by omega), ih _ (by omega)]
        · rw [if_neg hc, dif_neg hc]
    · rw [if_neg h1, dif_neg h1]
def tokAtF (s : ByteArray) (i : Nat) : Tk × Nat × Int :=
  let c := bt s i
  if c = 58 then ((3, ⟨#[58]⟩, i), i + 1, 0)
  else if c = 124 then ((4, ⟨#[124]⟩, i), i + 1, 0)
  else if c = 59 then ((5, ⟨#[59]⟩, i), i + 1, 0)
  else if isLetN c = true then
    let e := spanF isMoreN s s.size i
    if 32 < e - i then (tk0, i, 19) else ((1, s.extract i e, i), e, 0)
  else if c = 39 then
    let e := spanF isSpelN s s.size (i + 1)
    if s.size ≤ e ∨ bt s e ≠ 39 ∨ e = i + 1 then (tk0, i, 13)
    else if 32 < e - i - 1 then (tk0, i, 19) else ((2, s.extract (i + 1) e, i), e + 1, 0)
  else (tk0, i, 13)
theorem tokAtF_eq (s : ByteArray) (i : Nat) : tokAtF s i = tokAt s i := by
  unfold tokAtF tokAt
  dsimp only
  rw [spanF_eq _ _ _ _ (by omega), spanF_eq _ _ _ _ (by omega)]
def lexF (s : ByteArray) : Nat → Nat → List Tk × Int × Int
  | 0, _ => ([], 0, 0)
  | n + 1, i =>
    if skipF s s.size i < s.size then
      if (tokAtF s (skipF s s.size i)).2.2 = 0 then
        let r := lexF s n (tokAtF s (skipF s s.size i)).2.1
        if r.2.2 = 0 then ((tokAtF s (skipF s s.size i)).1 :: r.1, 0, 0) else r
      else ([], (skipF s s.size i : Int), (tokAtF s (skipF s s.size i)).2.2)
    else ([], 0, 0)
theorem lexF_eq (s : ByteArray) : ∀ n i, s.size - i ≤ n → lexF s n i = lexGo s i := by
  intro n
  induction n with
  | zero => intro i h; rw [lexGo, dif_neg (by have := skip_ge s i; omega)]; rfl
  | succ n ih =>
    intro i h
    unfold lexF
    rw [lexGo]
    simp only [skipF_eq s s.size i (by omega), tokAtF_eq]
    by_cases h1 : skip s i < s.size
    · rw [if_pos h1, dif_pos h1]
      by_cases h2 : (tokAt s (skip s i)).2.2 = 0
      · rw [if_pos h2, dif_pos h2]
        have h3 := tokAt_end h1 h2
        have h4 := skip_ge s i
        rw [ih _ (by omega)]
      · rw [if_neg h2, dif_neg h2]
    · rw [if_neg h1, dif_neg h1]
/-- a literal's tokens: compute lexF -/
theorem lx_lit {s : ByteArray} {l : List Tk} {a e : Int} (h : lexF s s.size 0 = (l, a, e)) : lexGo s 0 = (l, a, e) := by
  rw [← lexF_eq s s.size 0 (by omega)]; exact h
theorem lx_of {s : ByteArray} {l : List Tk} {a e : Int} (h : lexGo s 0 = (l, a, e)) : lxN s = l.length ∧ lxC s = tkCells l ∧ lxA s = a ∧ lxE s = e := by
  unfold lxN lxC lxA lxE; rw [h]; exact ⟨rfl, rfl, rfl, rfl⟩
theorem tkCells_length (l : List Tk) : (tkCells l).length = l.length * 3 := by
  induction l with
  | nil => rfl
  | cons t l ih => rw [tkCells, List.flatMap_cons, List.length_append, ← tkCells, ih, List.length_cons]; simp; omega
theorem tkCells_cons (t : Tk) (l : List Tk) : tkCells (t :: l) = vI t.1 :: vS t.2.1 :: vI t.2.2 :: tkCells l := rfl
theorem tkCells_at (l : List Tk) : ∀ (i : Nat) (h : i < l.length), cellAt (tkCells l) (i * 3) = vI l[i].1 ∧ cellAt (tkCells l) (i * 3 + 1) = vS l[i].2.1 ∧ cellAt (tkCells l) (i * 3 + 2) = vI l[i].2.2 := by
  induction l with
  | nil => intro i h; simp at h
  | cons t l ih =>
    intro i h
    cases i with
    | zero => exact ⟨rfl, rfl, rfl⟩
    | succ i =>
      have := ih i (by simpa using h)
      rw [tkCells_cons, show (i + 1) * 3 = i * 3 + 3 by omega]
      exact this
theorem lexGo_len (s : ByteArray) : ∀ n i, s.size - i = n → (lexGo s i).1.length ≤ n := by
  intro n
  induction n using Nat.strongRecOn with
  | _ n ih =>
    intro i hn
    rw [lexGo]
    by_cases h1 : skip s i < s.size
    · rw [dif_pos h1]
      by_cases h2 : (tokAt s (skip s i)).2.2 = 0
      · rw [dif_pos h2]
        have h3 := tokAt_end h1 h2
        have h4 := skip_ge s i
        have h5 := ih (s.size - (tokAt s (skip s i)).2.1) (by omega) _ rfl
        dsimp only
        split
        · simp only [List.length_cons]; omega
        · omega
      · rw [dif_neg h2]; exact Nat.zero_le _
    · rw [dif_neg h1]; exact Nat.zero_le _
theorem lxN_le (s : ByteArray) : lxN s ≤ s.size := lexGo_len s s.size 0 (by omega)
theorem lxC_len (s : ByteArray) : (lxC s).length = lxN s * 3 := tkCells_length _
theorem awk1 : lexGo ⟨⟨[83, 32, 58, 32, 39, 97, 39, 32, 83, 32, 124, 32, 59]⟩⟩ 0 = ([(1, ⟨⟨[83]⟩⟩, 0), (3, ⟨⟨[58]⟩⟩, 2), (2, ⟨⟨[97]⟩⟩, 4), (1, ⟨⟨[83]⟩⟩, 8), (4, ⟨⟨[124]⟩⟩, 10), (5, ⟨⟨[59]⟩⟩, 12)], 0, 0) := lx_lit (by decide +kernel)
theorem awk2 : lexGo ⟨⟨[83, 32, 58, 32, 36]⟩⟩ 0 = ([], 4, 13) := lx_lit (by decide +kernel)
theorem awk3 : lexGo ⟨⟨[39, 97]⟩⟩ 0 = ([], 0, 13) := lx_lit (by decide +kernel)
end Go.Proofs.Ytljnfejcdadjpaa.A
