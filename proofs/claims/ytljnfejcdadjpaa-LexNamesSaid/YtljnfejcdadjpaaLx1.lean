/- Lexing, the plain law: what both texts compute. No program in sight. -/
import Derived.Test.YtljnfejcdadjpaaBas
set_option linter.unusedSimpArgs false
set_option linter.unusedVariables false
set_option maxRecDepth 100000
set_option maxHeartbeats 4000000
namespace Go.Proofs.Ytljnfejcdadjpaa
open Go

/-- the first place from i on where p fails -/
def span (p : Nat → Bool) (s : ByteArray) (i : Nat) : Nat :=
  if h : i < s.size ∧ p (bt s i) = true then span p s (i + 1) else i
termination_by s.size - i
theorem span_stop {p : Nat → Bool} {s : ByteArray} {i : Nat} (h : ¬ (i < s.size ∧ p (bt s i) = true)) : span p s i = i := by
  rw [span, dif_neg h]
theorem span_step {p : Nat → Bool} {s : ByteArray} {i : Nat} (h : i < s.size) (hp : p (bt s i) = true) : span p s i = span p s (i + 1) := by
  rw [span, dif_pos ⟨h, hp⟩]
theorem span_ge (p : Nat → Bool) (s : ByteArray) (i : Nat) : i ≤ span p s i := by
  rw [span]; split
  · rename_i h
    have := span_ge p s (i + 1); omega
  · exact Nat.le_refl _
termination_by s.size - i
theorem span_le (p : Nat → Bool) (s : ByteArray) (i : Nat) (h : i ≤ s.size) : span p s i ≤ s.size := by
  rw [span]; split
  · rename_i hh
    exact span_le p s (i + 1) (by omega)
  · exact h
termination_by s.size - i
theorem span_gt {p : Nat → Bool} {s : ByteArray} {i : Nat} (h : i < s.size) (hp : p (bt s i) = true) : i < span p s i := by
  rw [span_step h hp]; have := span_ge p s (i + 1); omega

def isLetN (c : Nat) : Bool := (decide (97 ≤ c) && decide (c ≤ 122)) || (decide (65 ≤ c) && decide (c ≤ 90))
def isMoreN (c : Nat) : Bool := isLetN c || (decide (48 ≤ c) && decide (c ≤ 57)) || decide (c = 95)
def isSpelN (c : Nat) : Bool := decide (32 ≤ c) && decide (c ≤ 126) && !decide (c = 39) && !decide (c = 92)
def isBlankN (c : Nat) : Bool := decide (c = 32) || decide (c = 9) || decide (c = 10) || decide (c = 13)
/-- behind separators and comments -/
def skip (s : ByteArray) (i : Nat) : Nat :=
  if h : i < s.size then
    if isBlankN (bt s i) = true then skip s (i + 1)
    else if hc : bt s i = 35 then
      have : i < span (fun c => !decide (c = 10)) s i := span_gt h (by simp [hc])
      have : span (fun c => !decide (c = 10)) s i ≤ s.size := span_le _ s i (by omega)
      skip s (span (fun c => !decide (c = 10)) s i)
    else i
  else i
termination_by s.size - i
theorem skip_ge (s : ByteArray) (i : Nat) : i ≤ skip s i := by
  rw [skip]; split
  · rename_i h
    split
    · have := skip_ge s (i + 1); omega
    · rename_i hb
      split
      · rename_i hc
        have h1 : i < span (fun c => !decide (c = 10)) s i := span_gt h (by simp [hc])
        have h2 : span (fun c => !decide (c = 10)) s i ≤ s.size := span_le _ s i (by omega)
        have := skip_ge s (span (fun c => !decide (c = 10)) s i)
        show i ≤ skip s (span (fun c => !decide (c = 10)) s i)
        omega
      · exact Nat.le_refl _
  · exact Nat.le_refl _
termination_by s.size - i
/-- kind, text, where -/
abbrev Tk := Int × ByteArray × Int
def tk0 : Tk := (0, ByteArray.empty, 0)
/-- the token at i: it, where it ends, what is wrong -/
def tokAt (s : ByteArray) (i : Nat) : Tk × Nat × Int :=
  let c := bt s i
  if c = 58 then ((3, ⟨#[58]⟩, i), i + 1, 0)
  else if c = 124 then ((4, ⟨#[124]⟩, i), i + 1, 0)
  else if c = 59 then ((5, ⟨#[59]⟩, i), i + 1, 0)
  else if isLetN c = true then
    let e := span isMoreN s i
    if 32 < e - i then (tk0, i, 19) else ((1, s.extract i e, i), e, 0)
  else if c = 39 then
    let e := span isSpelN s (i + 1)
    if s.size ≤ e ∨ bt s e ≠ 39 ∨ e = i + 1 then (tk0, i, 13)
    else if 32 < e - i - 1 then (tk0, i, 19) else ((2, s.extract (i + 1) e, i), e + 1, 0)
  else (tk0, i, 13)
theorem tokAt_end {s : ByteArray} {i : Nat} (hi : i < s.size) (h : (tokAt s i).2.2 = 0) : i < (tokAt s i).2.1 ∧ (tokAt s i).2.1 ≤ s.size := by
  unfold tokAt at *
  dsimp only at *
  by_cases h1 : bt s i = 58
  · rw [if_pos h1] at *; exact ⟨Nat.lt_succ_self i, hi⟩
  rw [if_neg h1] at *
  by_cases h2 : bt s i = 124
  · rw [if_pos h2] at *; exact ⟨Nat.lt_succ_self i, hi⟩
  rw [if_neg h2] at *
  by_cases h3 : bt s i = 59
  · rw [if_pos h3] at *; exact ⟨Nat.lt_succ_self i, hi⟩
  rw [if_neg h3] at *
  by_cases h4 : isLetN (bt s i) = true
  · rw [if_pos h4] at *
    have g1 : i < span isMoreN s i := span_gt hi (by simp [isMoreN, h4])
    have g2 := span_le isMoreN s i (by omega)
    split at h
    · simp at h
    · rename_i h5; rw [if_neg h5]; exact ⟨g1, g2⟩
  rw [if_neg h4] at *
  by_cases h5 : bt s i = 39
  · rw [if_pos h5] at *
    have g1 := span_ge isSpelN s (i + 1)
    split at h
    · simp at h
    · rename_i h6
      split at h
      · simp at h
      · rename_i h7
        rw [if_neg h6, if_neg h7]
        simp only [not_or] at h6
        exact ⟨by show i < _ + 1; omega, by show _ + 1 ≤ _; omega⟩
  rw [if_neg h5] at h
  simp at h
/-- all tokens from i on: them, or where and what is wrong -/
def lexGo (s : ByteArray) (i : Nat) : List Tk × Int × Int :=
  if h : skip s i < s.size then
    if he : (tokAt s (skip s i)).2.2 = 0 then
      let r := lexGo s (tokAt s (skip s i)).2.1
      if r.2.2 = 0 then ((tokAt s (skip s i)).1 :: r.1, 0, 0) else r
    else ([], (skip s i : Int), (tokAt s (skip s i)).2.2)
  else ([], 0, 0)
termination_by s.size - i
decreasing_by
  have h1 := tokAt_end h he
  have h2 := skip_ge s i
  omega
end Go.Proofs.Ytljnfejcdadjpaa
