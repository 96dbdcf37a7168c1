/- Lexing: a tail lexes as its place in the whole. -/
import Derived.Test.YtljnfejcdadjpaaLx8
set_option linter.unusedSimpArgs false
set_option linter.unusedVariables false
set_option maxRecDepth 100000
set_option maxHeartbeats 4000000
namespace Go.Proofs.Ytljnfejcdadjpaa.A
open Go
theorem extract_tail (s : ByteArray) (i a b : Nat) (h : i + b ≤ s.size) : (s.extract i s.size).extract a b = s.extract (i + a) (i + b) := by
  rw [ByteArray.extract_extract]; congr 1; omega
theorem skip_b {s : ByteArray} {i : Nat} (h : i < s.size) (hb : isBlankN (bt s i) = true) : skip s i = skip s (i + 1) := by rw [skip, dif_pos h, if_pos hb]
theorem skip_h {s : ByteArray} {i : Nat} (h : i < s.size) (hb : ¬ isBlankN (bt s i) = true) (hc : bt s i = 35) : skip s i = skip s (span (fun c => !decide (c = 10)) s i) := by rw [skip, dif_pos h, if_neg hb, dif_pos hc]
theorem skip_s {s : ByteArray} {i : Nat} (h : i < s.size) (hb : ¬ isBlankN (bt s i) = true) (hc : ¬ bt s i = 35) : skip s i = i := by rw [skip, dif_pos h, if_neg hb, dif_neg hc]
theorem skip_e {s : ByteArray} {i : Nat} (h : ¬ i < s.size) : skip s i = i := by rw [skip, dif_neg h]
theorem skip_tail (s : ByteArray) (i k : Nat) (h : i ≤ s.size) : skip (s.extract i s.size) k + i = skip s (i + k) := by
  have hz := size_tail s i
  have hbt := bt_tail s i k h
  by_cases hk : k < s.size - i
  · by_cases hb : isBlankN (bt s (i + k)) = true
    · rw [skip_b (by omega) (by rw [hbt]; exact hb), skip_b (s := s) (by omega) hb, skip_tail s i (k + 1) h, Nat.add_assoc]
    · by_cases hc : bt s (i + k) = 35
      · have e1 := span_tail (fun c => !decide (c = 10)) s i k h
        have e2 : k < span (fun c => !decide (c = 10)) (s.extract i s.size) k := span_gt (by omega) (by rw [hbt, hc]; rfl)
        have e3 := span_le (fun c => !decide (c = 10)) (s.extract i s.size) k (by omega)
        rw [skip_h (by omega) (by rw [hbt]; exact hb) (by rw [hbt]; exact hc), skip_h (s := s) (by omega) hb hc, skip_tail s i _ h, ← e1, Nat.add_comm]
      · rw [skip_s (by omega) (by rw [hbt]; exact hb) (by rw [hbt]; exact hc), skip_s (s := s) (by omega) hb hc]; omega
  · rw [skip_e (by omega), skip_e (s := s) (by omega)]; omega
termination_by s.size - i - k
theorem skipI_tail (s : ByteArray) {i : Int} (h0 : 0 ≤ i) (h : i ≤ s.size) : i + skipI (s.extract i.toNat s.size) 0 = skipI s i := by
  unfold skipI
  have := skip_tail s i.toNat 0 (by omega)
  simp only [Nat.add_zero] at this
  simp only [Int.toNat_zero]
  omega
theorem c_blank {s : ByteArray} (hs : s.size < 4611686018427387904) : pc 22 [.v false [vS s]] (ret1 (.st (vI (skipI s 0)))) :=
  ⟨enters Try.func22 (by kernel_rfl) (by kernel_rfl), pc_blank s hs⟩
theorem c_first {s : ByteArray} (hs : s.size < 4611686018427387904) (h0 : 0 < s.size) : pc 23 [.v false [vS s]] (rTok (tkK s 0) (tkT s 0) (tkW s 0) (tkN s 0) (tkE s 0)) :=
  ⟨enters Try.func23 (by kernel_rfl) (by kernel_rfl), pc_first s hs h0⟩
theorem tok_tail (s : ByteArray) (i : Nat) (hi : i < s.size) :
    (tokAt (s.extract i s.size) 0).1.1 = (tokAt s i).1.1 ∧ (tokAt (s.extract i s.size) 0).1.2.1 = (tokAt s i).1.2.1 ∧ (tokAt (s.extract i s.size) 0).2.1 + i = (tokAt s i).2.1 ∧ (tokAt (s.extract i s.size) 0).2.2 = (tokAt s i).2.2 := by
  have hz := size_tail s i
  have b0 := bt_tail s i 0 (by omega)
  have m := span_tail isMoreN s i 0 (by omega)
  have p := span_tail isSpelN s i 1 (by omega)
  have m2 := span_le isMoreN s i (by omega)
  have p2 := span_le isSpelN s (i + 1) (by omega)
  have p3 := span_ge isSpelN s (i + 1)
  rw [Nat.add_zero] at b0 m
  unfold tokAt
  dsimp only
  rw [b0]
  by_cases h1 : bt s i = 58
  · rw [if_pos h1, if_pos h1]; exact ⟨rfl, rfl, by show 0 + 1 + i = i + 1; omega, rfl⟩
  rw [if_neg h1, if_neg h1]
  by_cases h2 : bt s i = 124
  · rw [if_pos h2, if_pos h2]; exact ⟨rfl, rfl, by show 0 + 1 + i = i + 1; omega, rfl⟩
  rw [if_neg h2, if_neg h2]
  by_cases h3 : bt s i = 59
  · rw [if_pos h3, if_pos h3]; exact ⟨rfl, rfl, by show 0 + 1 + i = i + 1; omega, rfl⟩
  rw [if_neg h3, if_neg h3]
  by_cases h4 : isLetN (bt s i) = true
  · rw [if_pos h4, if_pos h4]
    by_cases h5 : 32 < span isMoreN s i - i
    · rw [if_pos h5, if_pos (by omega)]; exact ⟨rfl, rfl, by show 0 + i = i; omega, rfl⟩
    · rw [if_neg h5, if_neg (by omega)]
      refine ⟨rfl, ?_, m, rfl⟩
      show (s.extract i s.size).extract 0 (span isMoreN (s.extract i s.size) 0) = s.extract i (span isMoreN s i)
      rw [extract_tail s i _ _ (by omega), Nat.add_zero, Nat.add_comm, m]
  rw [if_neg h4, if_neg h4]
  by_cases h5 : bt s i = 39
  · rw [if_pos h5, if_pos h5]
    have b1 := bt_tail s i (span isSpelN (s.extract i s.size) (0 + 1)) (by omega)
    have p' : span isSpelN (s.extract i s.size) (0 + 1) + i = span isSpelN s (i + 1) := p
    rw [b1, Nat.add_comm i, p']
    by_cases h6 : s.size ≤ span isSpelN s (i + 1) ∨ bt s (span isSpelN s (i + 1)) ≠ 39 ∨ span isSpelN s (i + 1) = i + 1
    · rw [if_pos h6, if_pos (by omega)]; exact ⟨rfl, rfl, by show 0 + i = i; omega, rfl⟩
    · rw [if_neg h6, if_neg (by omega)]
      by_cases h7 : 32 < span isSpelN s (i + 1) - i - 1
      · rw [if_pos h7, if_pos (by omega)]; exact ⟨rfl, rfl, by show 0 + i = i; omega, rfl⟩
      · rw [if_neg h7, if_neg (by omega)]
        refine ⟨rfl, ?_, ?_, rfl⟩
        · show (s.extract i s.size).extract (0 + 1) (span isSpelN (s.extract i s.size) (0 + 1)) = s.extract (i + 1) (span isSpelN s (i + 1))
          rw [extract_tail s i _ _ (by omega), Nat.zero_add, Nat.add_comm i (span _ _ _)]
          rw [Nat.zero_add] at p'
          rw [p']
        · show span isSpelN (s.extract i s.size) (0 + 1) + 1 + i = span isSpelN s (i + 1) + 1
          omega
  · rw [if_neg h5, if_neg h5]; exact ⟨rfl, rfl, by show 0 + i = i; omega, rfl⟩
theorem tok_where (s : ByteArray) (i : Nat) (h : (tokAt s i).2.2 = 0) : (tokAt s i).1.2.2 = i := by
  unfold tokAt at *
  dsimp only at *
  by_cases h1 : bt s i = 58
  · rw [if_pos h1]
  rw [if_neg h1] at *
  by_cases h2 : bt s i = 124
  · rw [if_pos h2]
  rw [if_neg h2] at *
  by_cases h3 : bt s i = 59
  · rw [if_pos h3]
  rw [if_neg h3] at *
  by_cases h4 : isLetN (bt s i) = true
  · rw [if_pos h4] at *
    split at h
    · exact absurd h (by simp)
    · rename_i h5; rw [if_neg h5]
  rw [if_neg h4] at *
  by_cases h5 : bt s i = 39
  · rw [if_pos h5] at *
    split at h
    · exact absurd h (by simp)
    · rename_i h6
      split at h
      · exact absurd h (by simp)
      · rename_i h7; rw [if_neg h6, if_neg h7]
  · rw [if_neg h5] at h; exact absurd h (by simp)
theorem tail_tk {s : ByteArray} {i : Int} (h0 : 0 ≤ i) (h : i < s.size) : tkK (s.extract i.toNat s.size) 0 = tkK s i ∧ tkT (s.extract i.toNat s.size) 0 = tkT s i ∧ i + tkN (s.extract i.toNat s.size) 0 = tkN s i ∧ tkE (s.extract i.toNat s.size) 0 = tkE s i := by
  obtain ⟨h1, h2, h3, h4⟩ := tok_tail s i.toNat (by omega)
  refine ⟨h1, h2, ?_, h4⟩
  unfold tkN
  rw [Int.toNat_zero]
  omega
theorem tkW_ok {s : ByteArray} {i : Int} (h0 : 0 ≤ i) (h : tkE s i = 0) : tkW s i = i := by
  have := tok_where s i.toNat h
  unfold tkW; rw [this]; omega
end Go.Proofs.Ytljnfejcdadjpaa.A
