/- Lexing: separators between two texts, the plain law. -/
import Derived.Test.YtljnfejcdadjpaaLx9
import Derived.Test.YtljnfejcdadjpaaLx11
set_option linter.unusedSimpArgs false
set_option linter.unusedVariables false
set_option maxRecDepth 100000
set_option maxHeartbeats 4000000
namespace Go.Proofs.Ytljnfejcdadjpaa.A
open Go
/-- a span inside the first part, or up to its end where the second part stops it -/
theorem span_app {p : Nat → Bool} {a t : ByteArray} (ht : p (bt t 0) = false ∨ t.size = 0) (i : Nat) (h : i ≤ a.size) : span p (a ++ t) i = span p a i := by
  have hz : (a ++ t).size = a.size + t.size := ByteArray.size_append
  by_cases hi : i < a.size
  · by_cases hp : p (bt a i) = true
    · rw [span_step hi hp, span_step (s := a ++ t) (by omega) (by rw [bt_append_left hi]; exact hp), span_app ht (i + 1) (by omega)]
    · rw [span_stop (s := a) (fun hh => hp hh.2), span_stop (s := a ++ t) (fun hh => hp (by rw [bt_append_left hi] at hh; exact hh.2))]
  · have hi' : i = a.size := by omega
    rw [span_stop (s := a) (fun hh => hi hh.1), span_stop]
    rintro ⟨h1, h2⟩
    rw [bt_append_right (by omega), hi', Nat.sub_self] at h2
    rcases ht with ht | ht
    · rw [ht] at h2; cases h2
    · omega
termination_by a.size - i
/-- a span that ends inside the first part -/
theorem span_in {p : Nat → Bool} {a t : ByteArray} (i : Nat) (h : span p a i < a.size) : span p (a ++ t) i = span p a i := by
  have hz : (a ++ t).size = a.size + t.size := ByteArray.size_append
  have hi : i < a.size := by have := span_ge p a i; omega
  by_cases hp : p (bt a i) = true
  · rw [span_step hi hp] at h ⊢
    rw [span_step (s := a ++ t) (by omega) (by rw [bt_append_left hi]; exact hp), span_in (i + 1) h]
  · rw [span_stop (s := a) (fun hh => hp hh.2), span_stop (s := a ++ t) (fun hh => hp (by rw [bt_append_left hi] at hh; exact hh.2))]
termination_by a.size - i
theorem extract_app {a t : ByteArray} {i k : Nat} (h : k ≤ a.size) : (a ++ t).extract i k = a.extract i k := by
  apply ByteArray.ext
  rw [ByteArray.data_extract, ByteArray.data_append, ByteArray.data_extract, Array.extract_append]
  have : k - a.data.size = 0 := by have : a.data.size = a.size := rfl; omega
  rw [this]
  simp
theorem tokAt_app {a t : ByteArray} {i : Nat} (ht : isMoreN (bt t 0) = false) (hi : i < a.size) (he : (tokAt a i).2.2 = 0) : tokAt (a ++ t) i = tokAt a i := by
  have hz : (a ++ t).size = a.size + t.size := ByteArray.size_append
  unfold tokAt at he ⊢
  dsimp only at he ⊢
  rw [bt_append_left hi]
  by_cases h1 : bt a i = 58
  · rw [if_pos h1, if_pos h1]
  rw [if_neg h1] at he
  rw [if_neg h1, if_neg h1]
  by_cases h2 : bt a i = 124
  · rw [if_pos h2, if_pos h2]
  rw [if_neg h2] at he
  rw [if_neg h2, if_neg h2]
  by_cases h3 : bt a i = 59
  · rw [if_pos h3, if_pos h3]
  rw [if_neg h3] at he
  rw [if_neg h3, if_neg h3]
  by_cases h4 : isLetN (bt a i) = true
  · rw [if_pos h4, if_pos h4, span_app (.inl ht) i (by omega)]
    by_cases h5 : 32 < span isMoreN a i - i
    · rw [if_pos h5, if_pos h5]
    · rw [if_neg h5, if_neg h5, extract_app (span_le _ a i (by omega))]
  rw [if_neg h4] at he
  rw [if_neg h4, if_neg h4]
  by_cases h5 : bt a i = 39
  · rw [if_pos h5] at he
    rw [if_pos h5, if_pos h5]
    by_cases h6 : a.size ≤ span isSpelN a (i + 1) ∨ bt a (span isSpelN a (i + 1)) ≠ 39 ∨ span isSpelN a (i + 1) = i + 1
    · rw [if_pos h6] at he; simp at he
    · have h7 : span isSpelN a (i + 1) < a.size := by omega
      rw [span_in (i + 1) h7, bt_append_left h7, if_neg (by omega), if_neg h6]
      by_cases h8 : 32 < span isSpelN a (i + 1) - i - 1
      · rw [if_pos h8, if_pos h8]
      · rw [if_neg h8, if_neg h8, extract_app (by omega)]
  · rw [if_neg h5] at he; simp at he
/-- no remark in it -/
def noHash (a : ByteArray) : Prop := ∀ i, i < a.size → bt a i ≠ 35
theorem skip_app {a t : ByteArray} (hn : noHash a) (i : Nat) (h : i ≤ a.size) : skip (a ++ t) i = if skip a i < a.size then skip a i else skip (a ++ t) a.size := by
  have hz : (a ++ t).size = a.size + t.size := ByteArray.size_append
  by_cases hi : i < a.size
  · have h35 := hn i hi
    by_cases hb : isBlankN (bt a i) = true
    · rw [skip_b (s := a ++ t) (by omega) (by rw [bt_append_left hi]; exact hb), skip_b hi hb, skip_app hn (i + 1) (by omega)]
    · rw [skip_s (s := a ++ t) (by omega) (by rw [bt_append_left hi]; exact hb) (by rw [bt_append_left hi]; exact h35), skip_s hi hb h35, if_pos hi]
  · have hi' : i = a.size := by omega
    rw [skip_e (s := a) hi, if_neg hi, hi']
termination_by a.size - i
theorem lexGo_ok_err {s : ByteArray} {i : Nat} (h : (lexGo s i).2.2 = 0) : (lexGo s i).2.1 = 0 := by
  have := goOn_nil (s := s) (i := i)
  unfold goOn at this
  rw [if_pos h] at this
  rw [← this]
theorem lexGo_app {a t : ByteArray} (ht : isMoreN (bt t 0) = false) (hn : noHash a) (i : Nat) (h : i ≤ a.size) (he : (lexGo a i).2.2 = 0) : lexGo (a ++ t) i = goOn (lexGo a i).1 (lexGo (a ++ t) a.size) := by
  have hz : (a ++ t).size = a.size + t.size := ByteArray.size_append
  have hs := skip_app (t := t) hn i h
  by_cases h1 : skip a i < a.size
  · rw [if_pos h1] at hs
    have hss : skip a (skip a i) = skip a i := skip_skip9 a i
    have hs2 : skip (a ++ t) (skip a i) = skip a i := by rw [skip_app hn _ (by omega), hss, if_pos h1]
    by_cases h2 : (tokAt a (skip a i)).2.2 = 0
    · have h3 := tokAt_end h1 h2
      have h4 := skip_ge a i
      have e1 : lexGo a i = goOn [(tokAt a (skip a i)).1] (lexGo a (tokAt a (skip a i)).2.1) := by
        rw [lexGo_skip (i := i) (k := skip a i) hss.symm, lexGo_tok hss h1 h2]
      have e2 : lexGo (a ++ t) i = goOn [(tokAt a (skip a i)).1] (lexGo (a ++ t) (tokAt a (skip a i)).2.1) := by
        rw [lexGo_skip (i := i) (k := skip a i) (by rw [hs2, hs]), lexGo_tok hs2 (by omega) (by rw [tokAt_app ht h1 h2]; exact h2), tokAt_app ht h1 h2]
      have h5 : (lexGo a (tokAt a (skip a i)).2.1).2.2 = 0 := by
        rw [e1] at he; unfold goOn at he
        split at he
        · assumption
        · exact he
      rw [e2, lexGo_app ht hn _ h3.2 h5, goOn_goOn, e1]
      unfold goOn
      rw [if_pos h5]
    · rw [lexGo_skip (i := i) (k := skip a i) hss.symm, lexGo_bad hss h1 h2] at he
      exact absurd he h2
  · rw [if_neg h1] at hs
    rw [lexGo_skip (s := a ++ t) (i := i) (k := a.size) hs, lexGo_end h1, goOn_nil]
termination_by a.size - i
def shiftTk (k : Nat) (t : Tk) : Tk := (t.1, t.2.1, t.2.2 + k)
theorem tok_shift (s : ByteArray) (k i : Nat) (hi : k + i < s.size) (he : (tokAt (s.extract k s.size) i).2.2 = 0) :
    (tokAt s (k + i)).1 = shiftTk k (tokAt (s.extract k s.size) i).1 ∧ (tokAt s (k + i)).2.1 = k + (tokAt (s.extract k s.size) i).2.1 ∧ (tokAt s (k + i)).2.2 = 0 := by
  have hz := size_tail s k
  obtain ⟨a1, a2, a3, a4⟩ := tok_tail s (k + i) hi
  obtain ⟨b1, b2, b3, b4⟩ := tok_tail (s.extract k s.size) i (by omega)
  have e : (s.extract k s.size).extract i (s.extract k s.size).size = s.extract (k + i) s.size := by
    rw [hz, extract_tail s k i (s.size - k) (by omega), show k + (s.size - k) = s.size by omega]
  rw [e] at b1 b2 b3 b4
  have w1 := tok_where s (k + i) (by omega)
  have w2 := tok_where (s.extract k s.size) i he
  generalize tokAt s (k + i) = x at *
  generalize tokAt (s.extract k s.size) i = y at *
  generalize tokAt (s.extract (k + i) s.size) 0 = z at *
  obtain ⟨⟨x1, x2, x3⟩, x4, x5⟩ := x
  obtain ⟨⟨y1, y2, y3⟩, y4, y5⟩ := y
  obtain ⟨⟨z1, z2, z3⟩, z4, z5⟩ := z
  dsimp only at *
  unfold shiftTk
  dsimp only
  refine ⟨?_, by omega, by omega⟩
  rw [← a1, b1, ← a2, b2, w1, w2, Nat.add_comm k i]; rfl
theorem lexGo_shift (s b : ByteArray) (k : Nat) (hb : b = s.extract k s.size) (hk : k ≤ s.size) (i : Nat) (h : i ≤ s.size - k) (he : (lexGo b i).2.2 = 0) : lexGo s (k + i) = ((lexGo b i).1.map (shiftTk k), 0, 0) := by
  have hz : b.size = s.size - k := by rw [hb]; exact size_tail s k
  have hs : skip b i + k = skip s (k + i) := by rw [hb]; exact skip_tail s k i hk
  have hss : skip b (skip b i) = skip b i := skip_skip9 _ i
  have hsk := skip_skip9 s (k + i)
  by_cases h1 : skip b i < b.size
  · by_cases h2 : (tokAt b (skip b i)).2.2 = 0
    · have h3 := tokAt_end h1 h2
      have h4 := skip_ge b i
      have ht : (tokAt s (k + skip b i)).1 = shiftTk k (tokAt b (skip b i)).1 ∧ (tokAt s (k + skip b i)).2.1 = k + (tokAt b (skip b i)).2.1 ∧ (tokAt s (k + skip b i)).2.2 = 0 := by
        have := tok_shift s k (skip b i) (by omega) (by rw [← hb]; exact h2)
        rw [← hb] at this; exact this
      obtain ⟨t1, t2, t3⟩ := ht
      have ek : k + skip b i = skip s (k + i) := by omega
      rw [ek] at t1 t2 t3
      generalize hm : skip b i = m at *
      generalize hq : tokAt b m = q at *
      have e1 : lexGo b i = goOn [q.1] (lexGo b q.2.1) := by
        rw [lexGo_skip (i := i) (k := m) (by rw [hss, hm]), lexGo_tok hss h1 (by rw [hq]; exact h2), hq]
      have e2 : lexGo s (k + i) = goOn [shiftTk k q.1] (lexGo s (k + q.2.1)) := by
        rw [lexGo_skip (i := k + i) (k := skip s (k + i)) hsk.symm, lexGo_tok hsk (by omega) t3, t1, t2]
      have h5 : (lexGo b q.2.1).2.2 = 0 := by
        rw [e1] at he; unfold goOn at he
        split at he
        · assumption
        · exact he
      rw [e2, lexGo_shift s b k hb hk _ (by omega) h5, e1]
      unfold goOn
      rw [if_pos h5, if_pos rfl]
      simp
    · rw [lexGo_skip (i := i) (k := skip b i) hss.symm, lexGo_bad hss h1 h2] at he
      exact absurd he h2
  · rw [lexGo_end h1, lexGo_end (by omega)]; rfl
termination_by s.size - k - i
decreasing_by omega
/-- what stands between -/
def sepA (r : ByteArray) : ByteArray := ⟨#[32, 35]⟩ ++ r ++ ⟨#[10, 9, 13]⟩
theorem sep_size (r : ByteArray) : (sepA r).size = r.size + 5 := by unfold sepA; simp only [ByteArray.size_append]; have h1 : (ByteArray.mk #[32, 35]).size = 2 := rfl; have h2 : (ByteArray.mk #[10, 9, 13]).size = 3 := rfl; omega
theorem lex_between {a b r : ByteArray} (ha : (lexGo a 0).2.2 = 0) (hb : (lexGo b 0).2.2 = 0) (hn : noHash a) (hr : ∀ i, i < r.size → bt r i ≠ 10) :
    lexGo (a ++ sepA r ++ b) 0 = ((lexGo a 0).1 ++ (lexGo b 0).1.map (shiftTk (a.size + r.size + 5)), 0, 0) := by
  have hsz := sep_size r
  have hz : (a ++ sepA r ++ b).size = a.size + (r.size + 5) + b.size := by simp only [ByteArray.size_append]; omega
  have hby : ∀ i, i < r.size + 5 → bt (a ++ sepA r ++ b) (a.size + i) = bt (sepA r) i := by
    intro i hi
    rw [bt_append_left (by simp only [ByteArray.size_append]; omega), bt_append_right (by omega), Nat.add_sub_cancel_left]
  have s0 : bt (sepA r) 0 = 32 := by
    unfold sepA; rw [bt_append_left (by simp only [ByteArray.size_append]; have h1 : (ByteArray.mk #[32, 35]).size = 2 := rfl; omega), bt_append_left (by have h1 : (ByteArray.mk #[32, 35]).size = 2 := rfl; omega)]; rfl
  have s1 : bt (sepA r) 1 = 35 := by
    unfold sepA; rw [bt_append_left (by simp only [ByteArray.size_append]; have h1 : (ByteArray.mk #[32, 35]).size = 2 := rfl; omega), bt_append_left (by have h1 : (ByteArray.mk #[32, 35]).size = 2 := rfl; omega)]; rfl
  have s2 : ∀ i, i < r.size → bt (sepA r) (2 + i) = bt r i := by
    intro i hi
    have h1 : (ByteArray.mk #[32, 35]).size = 2 := rfl
    unfold sepA; rw [bt_append_left (by simp only [ByteArray.size_append]; omega), bt_append_right (by omega), h1, Nat.add_sub_cancel_left]
  have s3 : ∀ i, bt (sepA r) (2 + r.size + i) = bt ⟨#[10, 9, 13]⟩ i := by
    intro i
    have h1 : (ByteArray.mk #[32, 35]).size = 2 := rfl
    have h2 : ((ByteArray.mk #[32, 35]) ++ r).size = 2 + r.size := by simp only [ByteArray.size_append]; omega
    unfold sepA; rw [bt_append_right (by omega), h2, Nat.add_sub_cancel_left]
  generalize hx : a ++ sepA r ++ b = x at *
  -- the blanks between
  have k1 : skip x a.size = skip x (a.size + 1) := skip_b (by omega) (by rw [show a.size = a.size + 0 by rfl, hby 0 (by omega), s0]; rfl)
  have k2 : skip x (a.size + 1) = skip x (span (fun c => !decide (c = 10)) x (a.size + 1)) := skip_h (by omega) (by rw [hby 1 (by omega), s1]; decide) (by rw [hby 1 (by omega), s1])
  have sp : ∀ n i, r.size - i = n → i ≤ r.size → span (fun c => !decide (c = 10)) x (a.size + (2 + i)) = a.size + (2 + r.size) := by
    intro n
    induction n with
    | zero =>
      intro i h1 h2
      have : i = r.size := by omega
      subst this
      refine span_stop fun hh => ?_
      have h3 := hh.2
      rw [hby _ (by omega), show 2 + r.size = 2 + r.size + 0 by rfl, s3] at h3
      exact absurd h3 (by decide)
    | succ n ih =>
      intro i h1 h2
      rw [span_step (by omega) (by rw [hby _ (by omega), s2 i (by omega)]; simp [hr i (by omega)])]
      exact ih (i + 1) (by omega) (by omega)
  have k3 : span (fun c => !decide (c = 10)) x (a.size + 1) = a.size + (2 + r.size) := by
    rw [span_step (by omega) (by rw [hby 1 (by omega), s1]; rfl)]
    exact sp r.size 0 (by omega) (by omega)
  have k4 : skip x (a.size + (2 + r.size)) = skip x (a.size + (2 + r.size + 1)) := skip_b (by omega) (by rw [hby _ (by omega), show 2 + r.size = 2 + r.size + 0 by rfl, s3]; rfl)
  have k5 : skip x (a.size + (2 + r.size + 1)) = skip x (a.size + (2 + r.size + 2)) := skip_b (by omega) (by rw [hby _ (by omega), s3]; rfl)
  have k6 : skip x (a.size + (2 + r.size + 2)) = skip x (a.size + (2 + r.size + 3)) := skip_b (by omega) (by rw [hby _ (by omega), s3]; rfl)
  have k7 : skip x a.size = skip x (a.size + r.size + 5) := by
    rw [k1, k2, k3, k4, k5, k6, show a.size + (2 + r.size + 3) = a.size + r.size + 5 by omega]
  have tl : x.extract (a.size + r.size + 5) x.size = b := by
    rw [← hx]
    apply ByteArray.ext
    rw [ByteArray.data_extract, ByteArray.data_append, Array.extract_append]
    have h1 : (a ++ sepA r).data.size = a.size + r.size + 5 := by show (a ++ sepA r).size = _; simp only [ByteArray.size_append]; omega
    have h2 : (a ++ sepA r ++ b).size - (a ++ sepA r).data.size = b.data.size := by show _ - (a ++ sepA r).size = b.size; simp only [ByteArray.size_append]; omega
    rw [h2, h1, Nat.sub_self]
    have h3 : (a ++ sepA r).data.extract (a.size + r.size + 5) (a ++ sepA r ++ b).size = #[] := by
      apply Array.eq_empty_of_size_eq_zero; rw [Array.size_extract]; omega
    rw [h3]; simp
  have e1 := lexGo_app (a := a) (t := sepA r ++ b) (by rw [bt_append_left (by omega), s0]; rfl) hn 0 (by omega) ha
  rw [← ByteArray.append_assoc, hx] at e1
  have e2 := lexGo_shift x b (a.size + r.size + 5) tl.symm (by omega) 0 (by omega) hb
  rw [Nat.add_zero] at e2
  rw [e1, lexGo_skip k7, e2]
  unfold goOn
  rw [if_pos rfl]
theorem snoc_ne {s : ByteArray} {c : Nat} {i : Int} (h0 : 0 ≤ i) (h : ∀ n : Nat, (n : Int) < i → bt s n ≠ c) (h1 : ¬ (bt s i.toNat : Int) = c) : ∀ n : Nat, (n : Int) < i + 1 → bt s n ≠ c := by
  intro n hn
  by_cases h2 : (n : Int) < i
  · exact h n h2
  · have : n = i.toNat := by omega
    rw [this]; omega
theorem tk_where_go (s : ByteArray) : ∀ n i, s.size - i = n → ∀ t ∈ (lexGo s i).1, 0 ≤ t.2.2 ∧ t.2.2 ≤ s.size := by
  intro n
  induction n using Nat.strongRecOn with
  | _ n ih =>
    intro i hn t ht
    rw [lexGo] at ht
    by_cases h1 : skip s i < s.size
    · rw [dif_pos h1] at ht
      by_cases h2 : (tokAt s (skip s i)).2.2 = 0
      · rw [dif_pos h2] at ht
        have h3 := tokAt_end h1 h2
        have h4 := skip_ge s i
        have h5 := ih (s.size - (tokAt s (skip s i)).2.1) (by omega) _ rfl
        have h6 := tok_where s (skip s i) h2
        dsimp only at ht
        split at ht
        · rcases List.mem_cons.1 ht with rfl | ht
          · rw [h6]; omega
          · exact h5 t ht
        · exact h5 t ht
      · rw [dif_neg h2] at ht; simp at ht
    · rw [dif_neg h1] at ht; simp at ht
theorem tk_where (s : ByteArray) (t : Tk) (h : t ∈ (lexGo s 0).1) : 0 ≤ t.2.2 ∧ t.2.2 ≤ s.size := tk_where_go s _ 0 rfl t h
end Go.Proofs.Ytljnfejcdadjpaa.A
