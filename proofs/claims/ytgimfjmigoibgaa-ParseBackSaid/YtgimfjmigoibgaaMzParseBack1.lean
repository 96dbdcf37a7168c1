/- What ParseBack needs beyond, part 1. -/
import Derived.Test.YtgimfjmigoibgaaMz5
import Derived.WalkKit
import Derived.WalkSpells
import Derived.WalkLawsBesides
import Derived.Lib.Hide
import Derived.Laws.AppendOwnNone
import Derived.Laws.CopyOwn
import Derived.BigQuiet
import Derived.Deep.QuietTactic
import Derived.Shelf.Strings.BuilderK
import Derived.Test.YtgimfjmigoibgaaProg
import Derived.BigCall
/- Base lemmas of this prover: byte arrays, slices of strings that came in or were made. No program in sight. -/
set_option linter.unusedSimpArgs false
set_option linter.unusedVariables false
set_option maxRecDepth 100000
set_option maxHeartbeats 4000000
namespace Go.Proofs.Ytgimfjmigoibgaa
open Go.RowKit
theorem bt_data (x : ByteArray) (i : Nat) : bt x i = (x.data.toList.getD i 0).toNat := by
  unfold bt
  split
  · rename_i h
    have h2 : i < x.data.size := h
    rw [List.getD_eq_getElem?_getD, Array.getElem?_toList, Array.getElem?_eq_getElem h2]
    rfl
  · rename_i h
    have h2 : ¬ i < x.data.size := h
    rw [List.getD_eq_getElem?_getD, Array.getElem?_toList, Array.getElem?_eq_none (by omega)]
    rfl
theorem bt_append_left {x y : ByteArray} {i : Nat} (h : i < x.size) : bt (x ++ y) i = bt x i := by
  have h2 : i < x.data.toList.length := by simpa using h
  rw [bt_data, bt_data, ByteArray.data_append, Array.toList_append, List.getD_eq_getElem?_getD, List.getD_eq_getElem?_getD, List.getElem?_append_left h2]
theorem bt_append_right {x y : ByteArray} {i : Nat} (h : x.size ≤ i) : bt (x ++ y) i = bt y (i - x.size) := by
  have h2 : x.data.toList.length ≤ i := by simpa using h
  rw [bt_data, bt_data, ByteArray.data_append, Array.toList_append, List.getD_eq_getElem?_getD, List.getD_eq_getElem?_getD, List.getElem?_append_right h2]
  rw [show x.data.toList.length = x.size by simp]
end Go.Proofs.Ytgimfjmigoibgaa
/- Worlds that change at some blocks alone; owned rows cut, read, and appended to from whatever source. No program in sight. -/
set_option linter.unusedSimpArgs false
set_option linter.unusedVariables false
set_option maxRecDepth 100000
set_option maxHeartbeats 4000000
namespace Go.Proofs.Ytgimfjmigoibgaa
open Go.RowKit
theorem Chg.of_below {a b : World} (h : Below a.heap.size a b) (S : Nat → Prop) : Chg S a b := ⟨h.os, h.tape, h.output, h.size, fun k hk _ => h.block k hk⟩
section
variable {P : Program} {ops : Array Oper} {o : Oper} {a : Act} {Q : Exit → Act → World → Prop}
end
end Go.Proofs.Ytgimfjmigoibgaa
/- Lexing: separators between two texts, the plain law. -/
set_option linter.unusedSimpArgs false
set_option linter.unusedVariables false
set_option maxRecDepth 100000
set_option maxHeartbeats 4000000
namespace Go.Proofs.Ytgimfjmigoibgaa.A
open Go
theorem span_app {p : Nat → Bool} {a t : ByteArray} (ht : p (bt t 0) = false ∨ t.size = 0) (i : Nat) (h : i ≤ a.size) : span p (a ++ t) i = span p a i := by
  have hz : (a ++ t).size = a.size + t.size := ByteArray.size_append
  by_cases hi : i < a.size
  · by_cases hp : p (bt a i) = true
    · rw [span_step hi hp, span_step (s := a ++ t) (by omega) (by rw [bt_append_left hi]; exact hp), span_app ht (i + 1) (by omega)]
    · rw [span_stop (s := a) (fun hh => hp hh.2), span_stop (s := a ++ t) (fun hh => hp (by rw [bt_append_left hi] at hh; exact hh.2))]
  · have hi' : i = a.size := by omega
    rw [span_stop (s := a) (fun hh => hi hh.1), span_stop]
    rintro ⟨h1, h2⟩
    rw [bt_append_right (by omega), hi', Nat.sub_self] at h2
    rcases ht with ht | ht
    · rw [ht] at h2; cases h2
    · omega
termination_by a.size - i
theorem span_in {p : Nat → Bool} {a t : ByteArray} (i : Nat) (h : span p a i < a.size) : span p (a ++ t) i = span p a i := by
  have hz : (a ++ t).size = a.size + t.size := ByteArray.size_append
  have hi : i < a.size := by have := span_ge p a i; omega
  by_cases hp : p (bt a i) = true
  · rw [span_step hi hp] at h ⊢
    rw [span_step (s := a ++ t) (by omega) (by rw [bt_append_left hi]; exact hp), span_in (i + 1) h]
  · rw [span_stop (s := a) (fun hh => hp hh.2), span_stop (s := a ++ t) (fun hh => hp (by rw [bt_append_left hi] at hh; exact hh.2))]
termination_by a.size - i
theorem extract_app {a t : ByteArray} {i k : Nat} (h : k ≤ a.size) : (a ++ t).extract i k = a.extract i k := by
  apply ByteArray.ext
  rw [ByteArray.data_extract, ByteArray.data_append, ByteArray.data_extract, Array.extract_append]
  have : k - a.data.size = 0 := by have : a.data.size = a.size := rfl; omega
  rw [this]
  simp
theorem tokAt_app {a t : ByteArray} {i : Nat} (ht : isMoreN (bt t 0) = false) (hi : i < a.size) (he : (tokAt a i).2.2 = 0) : tokAt (a ++ t) i = tokAt a i := by
  have hz : (a ++ t).size = a.size + t.size := ByteArray.size_append
  unfold tokAt at he ⊢
  dsimp only at he ⊢
  rw [bt_append_left hi]
  by_cases h1 : bt a i = 58
  · rw [if_pos h1, if_pos h1]
  rw [if_neg h1] at he
  rw [if_neg h1, if_neg h1]
  by_cases h2 : bt a i = 124
  · rw [if_pos h2, if_pos h2]
  rw [if_neg h2] at he
  rw [if_neg h2, if_neg h2]
  by_cases h3 : bt a i = 59
  · rw [if_pos h3, if_pos h3]
  rw [if_neg h3] at he
  rw [if_neg h3, if_neg h3]
  by_cases h4 : isLetN (bt a i) = true
  · rw [if_pos h4, if_pos h4, span_app (.inl ht) i (by omega)]
    by_cases h5 : 32 < span isMoreN a i - i
    · rw [if_pos h5, if_pos h5]
    · rw [if_neg h5, if_neg h5, extract_app (span_le _ a i (by omega))]
  rw [if_neg h4] at he
  rw [if_neg h4, if_neg h4]
  by_cases h5 : bt a i = 39
  · rw [if_pos h5] at he
    rw [if_pos h5, if_pos h5]
    by_cases h6 : a.size ≤ span isSpelN a (i + 1) ∨ bt a (span isSpelN a (i + 1)) ≠ 39 ∨ span isSpelN a (i + 1) = i + 1
    · rw [if_pos h6] at he; simp at he
    · have h7 : span isSpelN a (i + 1) < a.size := by omega
      rw [span_in (i + 1) h7, bt_append_left h7, if_neg (by omega), if_neg h6]
      by_cases h8 : 32 < span isSpelN a (i + 1) - i - 1
      · rw [if_pos h8, if_pos h8]
      · rw [if_neg h8, if_neg h8, extract_app (by omega)]
  · rw [if_neg h5] at he; simp at he
def shiftTk (k : Nat) (t : Tk) : Tk := (t.1, t.2.1, t.2.2 + k)
theorem tok_shift (s : ByteArray) (k i : Nat) (hi : k + i < s.size) (he : (tokAt (s.extract k s.size) i).2.2 = 0) :
    (tokAt s (k + i)).1 = shiftTk k (tokAt (s.extract k s.size) i).1 ∧ (tokAt s (k + i)).2.1 = k + (tokAt (s.extract k s.size) i).2.1 ∧ (tokAt s (k + i)).2.2 = 0 := by
  have hz := size_tail s k
  obtain ⟨a1, a2, a3, a4⟩ := tok_tail s (k + i) hi
  obtain ⟨b1, b2, b3, b4⟩ := tok_tail (s.extract k s.size) i (by omega)
  have e : (s.extract k s.size).extract i (s.extract k s.size).size = s.extract (k + i) s.size := by
    rw [hz, extract_tail s k i (s.size - k) (by omega), show k + (s.size - k) = s.size by omega]
  rw [e] at b1 b2 b3 b4
  have w1 := tok_where s (k + i) (by omega)
  have w2 := tok_where (s.extract k s.size) i he
  generalize tokAt s (k + i) = x at *
  generalize tokAt (s.extract k s.size) i = y at *
  generalize tokAt (s.extract (k + i) s.size) 0 = z at *
  obtain ⟨⟨x1, x2, x3⟩, x4, x5⟩ := x
  obtain ⟨⟨y1, y2, y3⟩, y4, y5⟩ := y
  obtain ⟨⟨z1, z2, z3⟩, z4, z5⟩ := z
  dsimp only at *
  unfold shiftTk
  dsimp only
  refine ⟨?_, by omega, by omega⟩
  rw [← a1, b1, ← a2, b2, w1, w2, Nat.add_comm k i]; rfl
theorem lexGo_shift (s b : ByteArray) (k : Nat) (hb : b = s.extract k s.size) (hk : k ≤ s.size) (i : Nat) (h : i ≤ s.size - k) (he : (lexGo b i).2.2 = 0) : lexGo s (k + i) = ((lexGo b i).1.map (shiftTk k), 0, 0) := by
  have hz : b.size = s.size - k := by rw [hb]; exact size_tail s k
  have hs : skip b i + k = skip s (k + i) := by rw [hb]; exact skip_tail s k i hk
  have hss : skip b (skip b i) = skip b i := skip_skip9 _ i
  have hsk := skip_skip9 s (k + i)
  by_cases h1 : skip b i < b.size
  · by_cases h2 : (tokAt b (skip b i)).2.2 = 0
    · have h3 := tokAt_end h1 h2
      have h4 := skip_ge b i
      have ht : (tokAt s (k + skip b i)).1 = shiftTk k (tokAt b (skip b i)).1 ∧ (tokAt s (k + skip b i)).2.1 = k + (tokAt b (skip b i)).2.1 ∧ (tokAt s (k + skip b i)).2.2 = 0 := by
        have := tok_shift s k (skip b i) (by omega) (by rw [← hb]; exact h2)
        rw [← hb] at this; exact this
      obtain ⟨t1, t2, t3⟩ := ht
      have ek : k + skip b i = skip s (k + i) := by omega
      rw [ek] at t1 t2 t3
      generalize hm : skip b i = m at *
      generalize hq : tokAt b m = q at *
      have e1 : lexGo b i = goOn [q.1] (lexGo b q.2.1) := by
        rw [lexGo_skip (i := i) (k := m) (by rw [hss, hm]), lexGo_tok hss h1 (by rw [hq]; exact h2), hq]
      have e2 : lexGo s (k + i) = goOn [shiftTk k q.1] (lexGo s (k + q.2.1)) := by
        rw [lexGo_skip (i := k + i) (k := skip s (k + i)) hsk.symm, lexGo_tok hsk (by omega) t3, t1, t2]
      have h5 : (lexGo b q.2.1).2.2 = 0 := by
        rw [e1] at he; unfold goOn at he
        split at he
        · assumption
        · exact he
      rw [e2, lexGo_shift s b k hb hk _ (by omega) h5, e1]
      unfold goOn
      rw [if_pos h5, if_pos rfl]
      simp
    · rw [lexGo_skip (i := i) (k := skip b i) hss.symm, lexGo_bad hss h1 h2] at he
      exact absurd he h2
  · rw [lexGo_end h1, lexGo_end (by omega)]; rfl
termination_by s.size - k - i
decreasing_by omega
end Go.Proofs.Ytgimfjmigoibgaa.A
/- Rules as text, and back: the plain law. -/
set_option linter.unusedSimpArgs false
set_option linter.unusedVariables false
set_option maxRecDepth 100000
set_option maxHeartbeats 4000000
namespace Go.Proofs.Ytgimfjmigoibgaa.A
open Go
/-! ### the text -/
def spB : ByteArray := ⟨#[32]⟩
def sqB : ByteArray := ⟨#[32, 39]⟩
def quB : ByteArray := ⟨#[39]⟩
def barB : ByteArray := ⟨#[32, 124]⟩
def colB : ByteArray := ⟨#[32, 58]⟩
def endB : ByteArray := ⟨#[32, 59, 10]⟩
def itT (x : It) : ByteArray := if x.1 = true then sqB ++ x.2 ++ quB else spB ++ x.2
def itsT : List It → ByteArray → ByteArray
  | [], o => o
  | x :: r, o => itsT r (o ++ itT x)
def barT (f : Bool) (o : ByteArray) : ByteArray := if f = true then o ++ barB else o
def altsT : Bool → List (List It) → ByteArray → ByteArray
  | _, [], o => o
  | f, a :: r, o => altsT true r (itsT a (barT f o))
def linesT : List Ln → ByteArray → ByteArray
  | [], o => o
  | x :: r, o => linesT r (altsT false x.2 (o ++ x.1 ++ colB) ++ endB)
def txtL (L : List Ln) : ByteArray := linesT L ByteArray.empty
/-! ### the same, with what comes behind -/
def itsR : List It → ByteArray → ByteArray
  | [], e => e
  | x :: r, e => itT x ++ itsR r e
def altsR : Bool → List (List It) → ByteArray → ByteArray
  | _, [], e => e
  | f, a :: r, e => (if f = true then barB else ByteArray.empty) ++ itsR a (altsR true r e)
def linesR : List Ln → ByteArray
  | [] => ByteArray.empty
  | x :: r => x.1 ++ (colB ++ altsR false x.2 (endB ++ linesR r))
theorem ba_nil (o : ByteArray) : o ++ ByteArray.empty = o := by simp
theorem nil_ba (o : ByteArray) : ByteArray.empty ++ o = o := by simp
theorem itsT_R : ∀ (a : List It) (o e : ByteArray), itsT a o ++ e = o ++ itsR a e := by
  intro a
  induction a with
  | nil => intro o e; rfl
  | cons x a ih => intro o e; unfold itsT itsR; rw [ih, ByteArray.append_assoc]
theorem altsT_R : ∀ (A : List (List It)) (f : Bool) (o e : ByteArray), altsT f A o ++ e = o ++ altsR f A e := by
  intro A
  induction A with
  | nil => intro f o e; rfl
  | cons a A ih =>
    intro f o e
    unfold altsT altsR
    rw [ih, itsT_R]
    unfold barT
    cases f
    · rw [if_neg (by decide), if_neg (by decide), nil_ba]
    · rw [if_pos rfl, if_pos rfl, ByteArray.append_assoc]
theorem linesT_R : ∀ (L : List Ln) (o : ByteArray), linesT L o = o ++ linesR L := by
  intro L
  induction L with
  | nil => intro o; unfold linesT linesR; rw [ba_nil]
  | cons x L ih =>
    intro o
    unfold linesT linesR
    rw [ih, ByteArray.append_assoc, altsT_R]
    simp only [ByteArray.append_assoc]
theorem txt_R (L : List Ln) : txtL L = linesR L := by unfold txtL; rw [linesT_R, nil_ba]
/-! ### its tokens -/
abbrev Tv := Int × ByteArray
def tvI (x : It) : Tv := (if x.1 = true then 2 else 1, x.2)
def tvA : Bool → List (List It) → List Tv
  | _, [] => []
  | f, a :: r => (if f = true then [((4 : Int), (⟨#[124]⟩ : ByteArray))] else []) ++ a.map tvI ++ tvA true r
def tvL : List Ln → List Tv
  | [] => []
  | x :: r => (1, x.1) :: (3, ⟨#[58]⟩) :: (tvA false x.2 ++ (5, ⟨#[59]⟩) :: tvL r)
def stripT (t : Tk) : Tv := (t.1, t.2.1)
def Lexes (s : ByteArray) (l : List Tv) : Prop := (lexGo s 0).2.2 = 0 ∧ (lexGo s 0).1.map stripT = l
theorem strip_shift (k : Nat) (l : List Tk) : (l.map (shiftTk k)).map stripT = l.map stripT := by rw [List.map_map]; rfl
theorem tail_app (p r : ByteArray) : (p ++ r).extract p.size (p ++ r).size = r := ByteArray.extract_append_eq_right rfl ByteArray.size_append
theorem ext_all (s : ByteArray) : s.extract 0 s.size = s := by
  apply ByteArray.ext; rw [ByteArray.data_extract]; exact Array.extract_size
theorem Lexes.nil : Lexes ByteArray.empty [] := by
  have h : lexGo ByteArray.empty 0 = ([], 0, 0) := lexGo_end (by rw [skip_e (by decide)]; decide)
  unfold Lexes; rw [h]; exact ⟨rfl, rfl⟩
theorem lex_behind {p r : ByteArray} {l : List Tv} (h : Lexes r l) : (lexGo (p ++ r) p.size).2.2 = 0 ∧ (lexGo (p ++ r) p.size).1.map stripT = l := by
  have hz : (p ++ r).size = p.size + r.size := ByteArray.size_append
  have e := lexGo_shift (p ++ r) r p.size (tail_app p r).symm (by omega) 0 (by omega) h.1
  rw [Nat.add_zero] at e
  rw [e]
  exact ⟨rfl, by rw [strip_shift]; exact h.2⟩
theorem Lexes.tok {p r : ByteArray} {l : List Tv} {t : Tk} (h : Lexes r l) (h0 : 0 < p.size) (hs : isBlankN (bt p 0) = false) (hc : bt p 0 ≠ 35) (ht : tokAt p 0 = (t, p.size, 0)) (hr : isMoreN (bt r 0) = false) : Lexes (p ++ r) (stripT t :: l) := by
  have hz : (p ++ r).size = p.size + r.size := ByteArray.size_append
  obtain ⟨h1, h2⟩ := lex_behind (p := p) h
  have hb : bt (p ++ r) 0 = bt p 0 := bt_append_left h0
  have e0 : skip (p ++ r) 0 = 0 := skip_s (by omega) (by rw [hb, hs]; decide) (by rw [hb]; exact hc)
  have e1 : tokAt (p ++ r) 0 = (t, p.size, 0) := by rw [tokAt_app hr h0 (by rw [ht]), ht]
  have e2 := lexGo_tok e0 (by omega) (by rw [e1])
  rw [e1] at e2
  unfold Lexes
  rw [e2]
  unfold goOn
  rw [if_pos h1]
  exact ⟨rfl, by rw [List.map_append, h2]; rfl⟩
theorem Lexes.blank {c : UInt8} {r : ByteArray} {l : List Tv} (h : Lexes r l) (hc : isBlankN c.toNat = true) : Lexes ((⟨#[c]⟩ : ByteArray) ++ r) l := by
  have hp : (⟨#[c]⟩ : ByteArray).size = 1 := rfl
  have hz : ((⟨#[c]⟩ : ByteArray) ++ r).size = (⟨#[c]⟩ : ByteArray).size + r.size := ByteArray.size_append
  obtain ⟨h1, h2⟩ := lex_behind (p := ⟨#[c]⟩) h
  have hb : bt ((⟨#[c]⟩ : ByteArray) ++ r) 0 = c.toNat := by rw [bt_append_left (by omega)]; rfl
  have e0 := lexGo_skip (skip_b (s := (⟨#[c]⟩ : ByteArray) ++ r) (i := 0) (by omega) (by rw [hb]; exact hc))
  rw [hp] at h1 h2
  unfold Lexes
  rw [e0]
  exact ⟨h1, h2⟩
theorem name_first {s : ByteArray} (h : nameI s = true) : isLetN (bt s 0) = true ∧ 0 < s.size := by
  obtain ⟨h1, h2, h3, h4⟩ := name_yes h
  exact ⟨by rw [← isLetN_eq]; exact h3, by omega⟩
theorem let_not {c : Nat} (h : isLetN c = true) : isBlankN c = false ∧ c ≠ 35 ∧ c ≠ 58 ∧ c ≠ 124 ∧ c ≠ 59 := by
  unfold isLetN at h
  simp only [Bool.or_eq_true, Bool.and_eq_true, decide_eq_true_eq] at h
  refine ⟨?_, by omega, by omega, by omega, by omega⟩
  unfold isBlankN
  simp only [Bool.or_eq_false_iff, decide_eq_false_iff_not]
  omega
theorem Lexes.name {s r : ByteArray} {l : List Tv} (hn : nameI s = true) (h : Lexes r l) (hr : isMoreN (bt r 0) = false) : Lexes (s ++ r) ((1, s) :: l) := by
  obtain ⟨h1, h2, h3, h4⟩ := name_yes hn
  obtain ⟨k1, k2⟩ := name_first hn
  obtain ⟨b1, b2, b3, b4, b5⟩ := let_not k1
  have h5 : span isMoreN s 0 = s.size := by
    unfold spanI at h4
    rw [show (fun c : Nat => isMoreI (c : Int)) = isMoreN from funext more_eq, show Int.toNat 0 = 0 from rfl] at h4
    omega
  have e1 : tokAt s 0 = ((1, s, 0), s.size, 0) := by
    unfold tokAt
    dsimp only
    rw [if_neg b3, if_neg b4, if_neg b5, if_pos k1, h5, if_neg (by omega), ext_all]
    rfl
  exact Lexes.tok h k2 b1 b2 e1 hr
theorem Lexes.term {s r : ByteArray} {l : List Tv} (hn : termI s = true) (h : Lexes r l) (hr : isMoreN (bt r 0) = false) : Lexes ((quB ++ s ++ quB) ++ r) ((2, s) :: l) := by
  obtain ⟨h1, h2, h4⟩ := term_yes hn
  have h5 : span isSpelN s 0 = s.size := by
    unfold spanI at h4
    rw [show (fun c : Nat => isSpelI (c : Int)) = isSpelN from funext spel_eq, show Int.toNat 0 = 0 from rfl] at h4
    omega
  have z1 : quB.size = 1 := rfl
  have hz : (quB ++ s ++ quB).size = s.size + 2 := by simp only [ByteArray.size_append]; omega
  have b0 : bt (quB ++ s ++ quB) 0 = 39 := by
    rw [bt_append_left (by simp only [ByteArray.size_append]; omega), bt_append_left (by omega)]; rfl
  have b1 : ∀ i, i < s.size → bt (quB ++ s ++ quB) (i + 1) = bt s i := by
    intro i hi
    rw [bt_append_left (by simp only [ByteArray.size_append]; omega), bt_append_right (by omega), z1, Nat.add_sub_cancel]
  have b2 : bt (quB ++ s ++ quB) (s.size + 1) = 39 := by
    rw [bt_append_right (by simp only [ByteArray.size_append]; omega)]
    rw [show s.size + 1 - (quB ++ s).size = 0 by simp only [ByteArray.size_append]; omega]; rfl
  have ex : (quB ++ s ++ quB).extract 1 (s.size + 1) = s := by
    have e1 : quB.extract 1 (s.size + 1) = ByteArray.empty := ByteArray.extract_eq_empty_iff.2 (by omega)
    rw [ByteArray.append_assoc, ByteArray.extract_append, e1, z1, nil_ba, Nat.sub_self, Nat.add_sub_cancel]
    exact ByteArray.extract_append_eq_left rfl
  generalize hq : quB ++ s ++ quB = q at *
  have sp : ∀ n i, s.size - i = n → i ≤ s.size → span isSpelN s i = s.size → span isSpelN q (i + 1) = s.size + 1 := by
    intro n
    induction n with
    | zero =>
      intro i e1 e2 e3
      obtain rfl : i = s.size := by omega
      refine span_stop fun hh => ?_
      rw [b2] at hh
      exact absurd hh.2 (by decide)
    | succ n ih =>
      intro i e1 e2 e3
      have hp : isSpelN (bt s i) = true := by
        by_cases hp : isSpelN (bt s i) = true
        · exact hp
        · rw [span_stop (fun hh => hp hh.2)] at e3; omega
      rw [span_step (by omega) (by rw [b1 i (by omega)]; exact hp)]
      exact ih (i + 1) (by omega) (by omega) (by rw [← e3, span_step (s := s) (by omega) hp])
  have e2 := sp _ 0 rfl (by omega) h5
  have e1 : tokAt q 0 = ((2, s, 0), q.size, 0) := by
    rw [hz]
    unfold tokAt
    dsimp only
    rw [if_neg (by omega), if_neg (by omega), if_neg (by omega), if_neg (by rw [b0]; decide), if_pos b0, Nat.zero_add] at *
    rw [e2, if_neg (by omega), if_neg (by omega), ex]
    rfl
  exact Lexes.tok (t := (2, s, 0)) h (by omega) (by rw [b0]; decide) (by rw [b0]; decide) e1 hr
theorem Lexes.sign {c : UInt8} {k : Int} {r : ByteArray} {l : List Tv} (h : Lexes r l) (ht : tokAt ⟨#[c]⟩ 0 = ((k, ⟨#[c]⟩, 0), 1, 0)) (hb : isBlankN c.toNat = false) (hc : c.toNat ≠ 35) (hr : isMoreN (bt r 0) = false) : Lexes ((⟨#[c]⟩ : ByteArray) ++ r) ((k, ⟨#[c]⟩) :: l) :=
  Lexes.tok (t := (k, ⟨#[c]⟩, 0)) h (by show 0 < 1; omega) hb hc ht hr
def soft (r : ByteArray) : Prop := bt r 0 = 32 ∨ bt r 0 = 10
theorem soft_more {r : ByteArray} (h : soft r) : isMoreN (bt r 0) = false := by rcases h with h | h <;> rw [h] <;> decide
theorem two (a b : UInt8) (r : ByteArray) : (⟨#[a, b]⟩ : ByteArray) ++ r = (⟨#[a]⟩ : ByteArray) ++ ((⟨#[b]⟩ : ByteArray) ++ r) := by
  rw [← ByteArray.append_assoc]; rfl
theorem three (a b c : UInt8) (r : ByteArray) : (⟨#[a, b, c]⟩ : ByteArray) ++ r = (⟨#[a]⟩ : ByteArray) ++ ((⟨#[b]⟩ : ByteArray) ++ ((⟨#[c]⟩ : ByteArray) ++ r)) := by
  rw [← ByteArray.append_assoc, ← ByteArray.append_assoc]; rfl
theorem bt_one (a : UInt8) (r : ByteArray) : bt ((⟨#[a]⟩ : ByteArray) ++ r) 0 = a.toNat := by
  have hp : (⟨#[a]⟩ : ByteArray).size = 1 := rfl
  rw [bt_append_left (by omega)]; rfl
theorem soft_it (x : It) (r : ByteArray) : soft (itT x ++ r) := by
  left
  unfold itT
  split
  · unfold sqB; rw [ByteArray.append_assoc, ByteArray.append_assoc, two]; exact bt_one 32 _
  · unfold spB; rw [ByteArray.append_assoc]; exact bt_one 32 _
theorem soft_its {a : List It} {r : ByteArray} (h : soft r) : soft (itsR a r) := by
  cases a with
  | nil => exact h
  | cons x a => exact soft_it x _
theorem soft_alts : ∀ {A : List (List It)} {f : Bool} {r : ByteArray}, soft r → soft (altsR f A r) := by
  intro A
  induction A with
  | nil => intro f r h; exact h
  | cons a A ih =>
    intro f r h
    unfold altsR
    split
    · unfold barB; rw [two]; exact .inl (bt_one 32 _)
    · rw [nil_ba]; exact soft_its (ih h)
theorem soft_end (r : ByteArray) : soft (endB ++ r) := by unfold endB; rw [three]; exact .inl (bt_one 32 _)
theorem lex_it {x : It} {r : ByteArray} {l : List Tv} (hx : itV x) (h : Lexes r l) (hr : soft r) : Lexes (itT x ++ r) (tvI x :: l) := by
  unfold itT tvI
  cases hx1 : x.1 with
  | true =>
    rw [if_pos rfl, if_pos rfl]
    have e : sqB ++ x.2 ++ quB ++ r = (⟨#[32]⟩ : ByteArray) ++ ((quB ++ x.2 ++ quB) ++ r) := by
      unfold sqB; simp only [ByteArray.append_assoc]; rw [two]; rfl
    rw [e]
    exact (Lexes.term (hx.1 hx1) h (soft_more hr)).blank (by decide)
  | false =>
    rw [if_neg (by decide), if_neg (by decide)]
    unfold spB
    rw [ByteArray.append_assoc]
    exact (Lexes.name (hx.2 hx1) h (soft_more hr)).blank (by decide)
theorem lex_its : ∀ {a : List It} {r : ByteArray} {l : List Tv}, (∀ x ∈ a, itV x) → Lexes r l → soft r → Lexes (itsR a r) (a.map tvI ++ l) := by
  intro a
  induction a with
  | nil => intro r l _ h _; exact h
  | cons x a ih => intro r l hx h hr; exact lex_it (hx x (List.mem_cons_self ..)) (ih (fun y hy => hx y (List.mem_cons_of_mem _ hy)) h hr) (soft_its hr)
theorem lex_alts : ∀ {A : List (List It)} {f : Bool} {r : ByteArray} {l : List Tv}, (∀ a ∈ A, ∀ x ∈ a, itV x) → Lexes r l → soft r → Lexes (altsR f A r) (tvA f A ++ l) := by
  intro A
  induction A with
  | nil => intro f r l _ h _; exact h
  | cons a A ih =>
    intro f r l hx h hr
    have h1 := lex_its (hx a (List.mem_cons_self ..)) (ih (f := true) (fun y hy => hx y (List.mem_cons_of_mem _ hy)) h hr) (soft_alts hr)
    unfold altsR tvA
    cases f with
    | true =>
      rw [if_pos rfl, if_pos rfl]
      unfold barB
      rw [two, List.append_assoc, List.append_assoc]
      exact (Lexes.sign h1 (by decide) (by decide) (by decide) (soft_more (soft_its (soft_alts hr)))).blank (by decide)
    | false =>
      rw [if_neg (by decide), if_neg (by decide), nil_ba, List.nil_append, List.append_assoc]
      exact h1
theorem lex_lines : ∀ {L : List Ln}, (∀ x ∈ L, nameI x.1 = true ∧ ∀ a ∈ x.2, ∀ it ∈ a, itV it) → Lexes (linesR L) (tvL L) := by
  intro L
  induction L with
  | nil => intro _; exact Lexes.nil
  | cons x L ih =>
    intro hx
    obtain ⟨h1, h2⟩ := hx x (List.mem_cons_self ..)
    have h3 := ih fun y hy => hx y (List.mem_cons_of_mem _ hy)
    have h4 : Lexes (endB ++ linesR L) ((5, ⟨#[59]⟩) :: tvL L) := by
      unfold endB
      rw [three]
      exact (Lexes.sign (h3.blank (by decide)) (by decide) (by decide) (by decide) (by rw [bt_one]; decide)).blank (by decide)
    have h5 := lex_alts (f := false) h2 h4 (soft_end _)
    have h6 : Lexes (colB ++ altsR false x.2 (endB ++ linesR L)) ((3, ⟨#[58]⟩) :: (tvA false x.2 ++ (5, ⟨#[59]⟩) :: tvL L)) := by
      unfold colB
      rw [two]
      exact (Lexes.sign h5 (by decide) (by decide) (by decide) (soft_more (soft_alts (soft_end _)))).blank (by decide)
    exact Lexes.name h1 h6 (by unfold colB; rw [two, bt_one]; decide)
theorem lex_txt {L : List Ln} (h : ∀ x ∈ L, nameI x.1 = true ∧ ∀ a ∈ x.2, ∀ it ∈ a, itV it) : lxE (txtL L) = 0 ∧ (lexGo (txtL L) 0).1.map stripT = tvL L := by
  have := lex_lines h
  rw [← txt_R] at this
  exact this
/-! ### read again -/
theorem rd_its (z : Int) : ∀ (a : List It) (ts : List Tk) (L : List Ln) (nm : ByteArray) (A : List (List It)) (cur : List It) (rest : List Tv), ts.map stripT = a.map tvI ++ rest →
    ∃ ts', ts'.map stripT = rest ∧ rGo z ts (L ++ [(nm, A ++ [cur])], 2, true) = rGo z ts' (L ++ [(nm, A ++ [cur ++ a])], 2, true) := by
  intro a
  induction a with
  | nil => intro ts L nm A cur rest h; exact ⟨ts, h, by rw [List.append_nil]⟩
  | cons x a ih =>
    intro ts L nm A cur rest h
    cases ts with
    | nil => simp at h
    | cons t ts =>
      rw [List.map_cons, List.map_cons, List.cons_append, List.cons.injEq] at h
      obtain ⟨h1, h2⟩ := h
      have e1 : t.1 = if x.1 = true then 2 else 1 := congrArg Prod.fst h1
      have e2 : t.2.1 = x.2 := congrArg Prod.snd h1
      have hk : t.1 = 1 ∨ t.1 = 2 := by rw [e1]; split <;> simp
      have hd : decide (t.1 = 2) = x.1 := by rw [e1]; cases x.1 <;> rfl
      obtain ⟨ts', g1, g2⟩ := ih ts L nm A (cur ++ [x]) rest h2
      refine ⟨ts', g1, ?_⟩
      have hs : rstep (L ++ [(nm, A ++ [cur])], 2, true) t = (true, L ++ [(nm, A ++ [cur ++ [x]])], 2, true) := by
        have hi : itmB t.1 = true := by rcases hk with q | q <;> rw [q] <;> rfl
        have ho : itmO t.1 true = true := by rcases hk with q | q <;> rw [q] <;> rfl
        show (itmB t.1, (if t.1 = 1 ∨ t.1 = 2 then addIt (L ++ [(nm, A ++ [cur])]) (decide (t.1 = 2)) t.2.1 else if t.1 = 4 then addAlt (L ++ [(nm, A ++ [cur])]) else L ++ [(nm, A ++ [cur])], if t.1 = 5 then 0 else 2, itmO t.1 true)) = _
        rw [hi, ho, if_pos hk, if_neg (by omega), addIt_snoc, hd, e2]
      rw [rGo, hs, if_pos rfl]
      dsimp only
      rw [g2, List.append_assoc]; rfl
theorem rd_alts (z : Int) : ∀ (A : List (List It)) (ts : List Tk) (L : List Ln) (nm : ByteArray) (B : List (List It)) (rest : List Tv), B ≠ [] → ts.map stripT = tvA true A ++ rest →
    ∃ ts', ts'.map stripT = rest ∧ rGo z ts (L ++ [(nm, B)], 2, true) = rGo z ts' (L ++ [(nm, B ++ A)], 2, true) := by
  intro A
  induction A with
  | nil => intro ts L nm B rest _ h; exact ⟨ts, h, by rw [List.append_nil]⟩
  | cons a A ih =>
    intro ts L nm B rest hB h
    unfold tvA at h
    rw [if_pos rfl, List.append_assoc, List.append_assoc] at h
    cases ts with
    | nil => simp at h
    | cons t ts =>
      rw [List.map_cons, List.cons_append, List.nil_append, List.cons.injEq] at h
      obtain ⟨h1, h2⟩ := h
      have e1 : t.1 = 4 := congrArg Prod.fst h1
      obtain ⟨ts1, g1, g2⟩ := rd_its z a ts L nm B [] _ h2
      obtain ⟨ts2, g3, g4⟩ := ih ts1 L nm (B ++ [[] ++ a]) rest (by simp) g1
      refine ⟨ts2, g3, ?_⟩
      have hs : rstep (L ++ [(nm, B)], 2, true) t = (true, L ++ [(nm, B ++ [[]])], 2, true) := by
        show (itmB t.1, (if t.1 = 1 ∨ t.1 = 2 then addIt (L ++ [(nm, B)]) (decide (t.1 = 2)) t.2.1 else if t.1 = 4 then addAlt (L ++ [(nm, B)]) else L ++ [(nm, B)], if t.1 = 5 then 0 else 2, itmO t.1 true)) = _
        rw [e1, if_neg (by decide), if_pos rfl, if_neg (by decide), addAlt_snoc]; rfl
      rw [rGo, hs, if_pos rfl]
      dsimp only
      rw [g2, g4]
      simp
theorem rd_lines (z : Int) : ∀ (L : List Ln) (ts : List Tk) (M : List Ln), (∀ x ∈ L, x.2 ≠ []) → ts.map stripT = tvL L → M ++ L ≠ [] → rGo z ts (M, 0, false) = (M ++ L, 0, 0) := by
  intro L
  induction L with
  | nil =>
    intro ts M _ h hM
    have : ts = [] := List.map_eq_nil_iff.1 h
    subst this
    rw [List.append_nil] at hM ⊢
    unfold rGo
    rw [if_neg (by simp [hM])]
  | cons x L ih =>
    intro ts M hx h hM
    obtain ⟨nm, A⟩ := x
    have hA : A ≠ [] := hx _ (List.mem_cons_self ..)
    unfold tvL at h
    match ts, h with
    | [], h => simp at h
    | [t], h => simp at h
    | t :: c :: ts, h =>
      rw [List.map_cons, List.map_cons, List.cons.injEq, List.cons.injEq] at h
      obtain ⟨h1, h2, h3⟩ := h
      have e1 : t.1 = 1 := congrArg Prod.fst h1
      have e2 : t.2.1 = nm := congrArg Prod.snd h1
      have e3 : c.1 = 3 := congrArg Prod.fst h2
      have s1 : rstep (M, 0, false) t = (true, M ++ [(nm, [])], 1, true) := by
        show (decide (t.1 = 1), (M ++ [(t.2.1, [])], 1, true)) = _
        rw [e1, e2]; rfl
      have s2 : rstep (M ++ [(nm, [])], 1, true) c = (true, M ++ [(nm, [[]])], 2, true) := by
        show (decide (c.1 = 3), (addAlt (M ++ [(nm, [])]), 2, true)) = _
        rw [e3, addAlt_snoc]; rfl
      cases A with
      | nil => exact absurd rfl hA
      | cons a A =>
        change ts.map stripT = (([] ++ a.map tvI ++ tvA true A) ++ (5, ⟨#[59]⟩) :: tvL L) at h3
        rw [List.nil_append, List.append_assoc] at h3
        obtain ⟨ts1, g1, g2⟩ := rd_its z a ts M nm [] [] _ h3
        obtain ⟨ts2, g3, g4⟩ := rd_alts z A ts1 M nm ([] ++ [[] ++ a]) _ (by simp) g1
        cases ts2 with
        | nil => simp at g3
        | cons d ts3 =>
          rw [List.map_cons, List.cons.injEq] at g3
          obtain ⟨k1, k2⟩ := g3
          have e5 : d.1 = 5 := congrArg Prod.fst k1
          have s3 : rstep (M ++ [(nm, [] ++ [[] ++ a] ++ A)], 2, true) d = (true, M ++ [(nm, a :: A)], 0, false) := by
            show (itmB d.1, (if d.1 = 1 ∨ d.1 = 2 then addIt (M ++ [(nm, [] ++ [[] ++ a] ++ A)]) (decide (d.1 = 2)) d.2.1 else if d.1 = 4 then addAlt (M ++ [(nm, [] ++ [[] ++ a] ++ A)]) else M ++ [(nm, [] ++ [[] ++ a] ++ A)], if d.1 = 5 then 0 else 2, itmO d.1 true)) = _
            rw [e5, if_neg (by decide), if_neg (by decide), if_pos rfl]; rfl
          have g5 := ih ts3 (M ++ [(nm, a :: A)]) (fun y hy => hx y (List.mem_cons_of_mem _ hy)) k2 (by simp)
          rw [rGo, s1, if_pos rfl]
          dsimp only
          rw [rGo, s2, if_pos rfl]
          dsimp only
          rw [show ([[]] : List (List It)) = [] ++ [[]] from rfl, g2, g4, rGo, s3, if_pos rfl]
          dsimp only
          rw [g5]; simp
theorem read_txt {L : List Ln} (h : ∀ x ∈ L, nameI x.1 = true ∧ ∀ a ∈ x.2, ∀ it ∈ a, itV it) (hA : ∀ x ∈ L, x.2 ≠ []) (hne : L ≠ []) : pAll (txtL L) = (L, 0, 0) := by
  obtain ⟨h1, h2⟩ := lex_txt h
  unfold pAll
  rw [if_neg (by rw [h1]; decide)]
  have := rd_lines (txtL L).size L (lexGo (txtL L) 0).1 [] hA h2 (by simpa using hne)
  simpa using this
end Go.Proofs.Ytgimfjmigoibgaa.A
/- Rules as text, by the law. -/
set_option linter.unusedSimpArgs false
set_option linter.unusedVariables false
set_option maxRecDepth 100000
set_option maxHeartbeats 4000000
namespace Go.Proofs.Ytgimfjmigoibgaa.A
open Go
theorem linesT_sz (L : List Ln) (o : ByteArray) : o.size ≤ (linesT L o).size := by rw [linesT_R, ByteArray.size_append]; omega
theorem altsT_sz (l : List (List It)) (f : Bool) (o : ByteArray) : o.size ≤ (altsT f l o).size := by
  have := altsT_R l f o ByteArray.empty
  rw [ba_nil] at this
  rw [this, ByteArray.size_append]; omega
theorem itsT_sz (a : List It) (o : ByteArray) : o.size ≤ (itsT a o).size := by
  have := itsT_R a o ByteArray.empty
  rw [ba_nil] at this
  rw [this, ByteArray.size_append]; omega
theorem pc_text13 (L : List Ln) (cs : List C) (hr : LnRep L cs) (hs : rSz L 1000000) (hz : (txtL L).size ≤ 1099511627776) : PC Try.prog T 12 [.v false [.sl L.length cs]] (ret1 (.st (vS (txtL L)))) [] := by
  have hn := hs.1
  have hcl := hr.1
  have a1 := fun (i : Nat) (h : i < L.length) => hr.2 i h
  have a3 := fun (i : Nat) (h : i < L.length) => hs.2 _ (lAt_mem (L := L) (i := i) h)
  have adr := fun (i : Nat) (h : i < L.length) => drop_lAt (a := L) (k := i) h
  have hstart : linesT (L.drop 0) ByteArray.empty = txtL L := rfl
  have hend : L.drop L.length = [] := List.drop_length
  generalize hm1 : L.length = n at *
  refine pc_of tok Try.func12 rfl (by rfl) ?_
  obtain ⟨j, hj⟩ : ∃ j : J, j = std Try.prog T := ⟨_, rfl⟩
  have hm : Try.prog.follows .mixedOrders = true := by kernel_rfl
  generalize y_txtL : @txtL = x_txtL at *
  (repeat' first | ((first | with_reducible refine tr_cut (fun h => ?_) (fun h => ?_) | refine aw_condj (by cbv) (fun h => ?_) (fun h => ?_)) <;> (try simp (disch := omega) only [hj, std, cmpI, cmpB, satB, Bool.not_eq_true, Bool.not_eq_false, decide_eq_true_eq, decide_eq_false_iff_not, beq_iff_eq, bne_iff_ne, bne_eq_false_iff_eq, beq_eq_false_iff_ne, ne_eq, reduceCtorEq, not_true_eq_false, not_false_eq_true, pl0, if_true, cmpS_eq, cmpS_neq, Bool.not_eq_eq_eq_not, Bool.not_true, Bool.not_false, Bool.not_eq_true', add64, sub64] at h) <;> (try (exfalso; omega))) | (with_reducible refine tr_alt (fun h => ?_) ?_ <;> (try (exfalso; omega))) | (with_reducible refine tr_ob ?_ ?_) | (with_reducible refine tr_done ?_) | (refine aw_tr hj tok book0 (by cbv) ?_) | (refine aw_seq fun K hK => ?_) | (refine aw_tr1 hj tok book0 (by cbv) ?_) | (refine aw_skip ?_) | (refine aw_block ?_) | (refine aw_exit ?_) | (refine aw_ret ⟨.inr rfl, ret_okj hj (by cbv) ?_ ?_⟩) | (refine aw_ret ?_) | (with_reducible refine th_n ?_) | (with_reducible refine th_r ?_) | (with_reducible refine th_x ?_) | (with_reducible refine blk_n ?_) | (with_reducible refine blk_r ?_) | (with_reducible refine blk_x ?_) | (with_reducible refine blk_y rfl ?_) | (refine ⟨.inr rfl, ret_okj hj (by cbv) ?_ ?_⟩) | (refine ⟨.inl rfl, ret_okj hj (by cbv) ?_ ?_⟩) | ((with_reducible refine ⟨(_, _), by cbv, ?_, ?_⟩)) | ((with_reducible refine ⟨_, by cbv, ?_, ?_⟩)) | (with_reducible apply_assumption -symm -exfalso only [*]))
  all_goals ((try subst y_txtL))
  refine aw_lpj hj [(0, .keep), (3, .keep), (4, .keep)] [] (fun (⟨i, o⟩ : Int × ByteArray) => stOf 76 [(0, .one (.c (.sl n cs))), (3, .one (.c (vS o))), (4, .one (.c (vI i)))] []) (fun (⟨i, o⟩ : Int × ByteArray) => n - i.toNat) (fun (⟨i, o⟩ : Int × ByteArray) => 0 ≤ i ∧ i ≤ n ∧ linesT (L.drop i.toNat) o = txtL L) ((0, _)) (by generalize @txtL = x_txtL; cbv) ?_ (fun ⟨i, o⟩ hI => ?_)
  · exact ⟨by omega, by omega, hstart⟩
  obtain ⟨i1, i2, hI⟩ := hI
  rcases Decidable.em (i < (n : Int)) with hi | hi
  · obtain ⟨b1, b2, b3, b4⟩ := a1 i.toNat (by omega)
    obtain ⟨hA, hB⟩ := a3 i.toNat (by omega)
    rw [adr i.toNat (by omega)] at hI
    generalize lAt L i.toNat = X at *
    obtain ⟨nm, As⟩ := X
    dsimp only at b1 b3 b4 hA hB hI
    have hI2 : linesT (L.drop (i.toNat + 1)) (altsT false As (o ++ nm ++ colB) ++ endB) = txtL L := hI
    have hz4 : (altsT false As (o ++ nm ++ colB) ++ endB).size ≤ 1099511627776 := by
      have h1 := linesT_sz (L.drop (i.toNat + 1)) (altsT false As (o ++ nm ++ colB) ++ endB)
      rw [hI2] at h1; omega
    have hz1 : (o ++ nm ++ colB).size ≤ 1099511627776 := by
      have h2 := altsT_sz As false (o ++ nm ++ colB)
      rw [ByteArray.size_append] at hz4; omega
    have hz2 : o.size + nm.size + 2 ≤ 1099511627776 := by rw [ByteArray.size_append, ByteArray.size_append] at hz1; exact hz1
    have hz3 : (o ++ nm).size = o.size + nm.size := ByteArray.size_append
    have e1 : gs (cellAt cs (i.toNat * 2)) = nm := by rw [b1]; rfl
    obtain ⟨l1, l2⟩ := b4
    generalize hds : gc (cellAt cs (i.toNat * 2 + 1)) = ds at *
    have f0 : (i + 1).toNat = i.toNat + 1 := by omega
    clear hI hz1
    generalize y_txtL : @txtL = x_txtL at *
    (repeat' first | ((first | with_reducible refine tr_cut (fun h => ?_) (fun h => ?_) | refine aw_condj (by cbv) (fun h => ?_) (fun h => ?_)) <;> (try simp (disch := omega) only [hj, std, cmpI, cmpB, satB, Bool.not_eq_true, Bool.not_eq_false, decide_eq_true_eq, decide_eq_false_iff_not, beq_iff_eq, bne_iff_ne, bne_eq_false_iff_eq, beq_eq_false_iff_ne, ne_eq, reduceCtorEq, not_true_eq_false, not_false_eq_true, pl0, if_true, cmpS_eq, cmpS_neq, Bool.not_eq_eq_eq_not, Bool.not_true, Bool.not_false, Bool.not_eq_true', e1, ite0, add64, sub64] at h) <;> (try (exfalso; omega))) | (with_reducible refine tr_alt (fun h => ?_) ?_ <;> (try (exfalso; omega))) | (with_reducible refine tr_ob ?_ ?_) | (with_reducible refine tr_done ?_) | (refine aw_tr hj tok book0 (by cbv) ?_) | (refine aw_seq fun K hK => ?_) | (refine aw_tr1 hj tok book0 (by cbv) ?_) | (refine aw_skip ?_) | (refine aw_block ?_) | (refine aw_exit ?_) | (refine aw_ret ⟨.inr rfl, ret_okj hj (by cbv) ?_ ?_⟩) | (refine aw_ret ?_) | (with_reducible refine th_n ?_) | (with_reducible refine th_r ?_) | (with_reducible refine th_x ?_) | (with_reducible refine blk_n ?_) | (with_reducible refine blk_r ?_) | (with_reducible refine blk_x ?_) | (with_reducible refine blk_y rfl ?_) | (refine ⟨.inr rfl, ret_okj hj (by cbv) ?_ ?_⟩) | (refine ⟨.inl rfl, ret_okj hj (by cbv) ?_ ?_⟩) | ((with_reducible refine ⟨(_, _), by cbv, ?_, ?_⟩)) | ((with_reducible refine ⟨_, by cbv, ?_, ?_⟩)) | (with_reducible apply_assumption -symm -exfalso only [*]))
    all_goals ((try subst y_txtL))
    all_goals (try (repeat' first | with_reducible exact obl0 | with_reducible refine obl1 ?_ ?_))
    all_goals (try first | with_reducible exact True.intro | ((first | refine ob_le hj ?_ | refine ob_lei hj ?_ | refine ob_inb hj ?_ | refine ob_pos hj ?_ | refine ob_ne0 hj ?_ | refine ob_eqb hj ?_); (first | rfl | first | omega | (simp only [hj, std]; split <;> omega) | (simp (disch := omega) only [hj, std, cmpI, cmpB, satB, add64, sub64, ite0, pl0, pl2, pl3, sb0, if_true, if_false, eq_self, hcl, e1, hz3] <;> omega) | (simp (disch := omega) [hj, std, cmpI, cmpB, satB, add64, sub64, ite0, pl0, pl2, pl3, sb0, if_true, if_false, eq_self, hcl, e1, hz3] <;> omega))) | ((refine ob_ok hj ?_; simp only [hj, std, ite0, b1]; exact ⟨_, rfl⟩)) | ((rw [hj]; simp only [std, e1]; first | (show _ + _ ≤ _; omega) | (show (o ++ nm).size + 2 ≤ _; omega))))
    generalize hT1 : altsT false As (o ++ nm ++ colB) = T1 at *
    refine aw_lpj hj [(0, .keep), (3, .keep), (4, .keep), (5, .keep)] [] (fun (⟨k, o2⟩ : Int × ByteArray) => stOf 76 [(0, .one (.c (.sl n cs))), (3, .one (.c (vS o2))), (4, .one (.c (vI i))), (5, .one (.c (vI k)))] []) (fun (⟨k, o2⟩ : Int × ByteArray) => As.length - k.toNat) (fun (⟨k, o2⟩ : Int × ByteArray) => 0 ≤ k ∧ k ≤ As.length ∧ altsT (decide (0 < k)) (As.drop k.toNat) o2 = T1) ((0, _)) (by generalize @txtL = x_txtL; cbv) ?_ (fun ⟨k, o2⟩ hI => ?_)
    · simp only [hj, std, ite0, e1]; exact ⟨by omega, by omega, hT1⟩
    obtain ⟨k1, k2, hK⟩ := hI
    have hz5 : T1.size ≤ 1099511627776 := by rw [ByteArray.size_append] at hz4; omega
    rcases Decidable.em (k < (As.length : Int)) with hk | hk
    · obtain ⟨c1, c2, c3⟩ := l2 k.toNat (by omega)
      have hBl := hB _ (aAt_mem (A := As) (i := k.toNat) (by omega))
      rw [drop_aAt (by omega : k.toNat < As.length)] at hK
      have hK2 : altsT true (As.drop (k.toNat + 1)) (itsT (aAt As k.toNat) (barT (decide (0 < k)) o2)) = T1 := hK
      have hz6 : (itsT (aAt As k.toNat) (barT (decide (0 < k)) o2)).size ≤ 1099511627776 := by
        have h1 := altsT_sz (As.drop (k.toNat + 1)) true (itsT (aAt As k.toNat) (barT (decide (0 < k)) o2))
        rw [hK2] at h1; omega
      clear hK
      generalize aAt As k.toNat = It0 at *
      have hz7 := itsT_sz It0 (barT (decide (0 < k)) o2)
      have c4 : (gc (cellAt ds k.toNat)).length = It0.length * 2 := by rw [c3]; exact itC_len It0
      have hbT : 0 < k → barT (decide (0 < k)) o2 = o2 ++ barB := fun h => by rw [decide_eq_true h]; rfl
      have hbF : ¬ 0 < k → barT (decide (0 < k)) o2 = o2 := fun h => by rw [decide_eq_false h]; rfl
      have hz8 : 0 < k → o2.size + 2 ≤ 1099511627776 := fun h => by rw [hbT h] at hz6 hz7; rw [ByteArray.size_append] at hz7; have e2 : barB.size = 2 := rfl; omega
      generalize hT2 : itsT It0 (barT (decide (0 < k)) o2) = T2 at *
      generalize y_txtL : @txtL = x_txtL at *
      (repeat' first | ((first | with_reducible refine tr_cut (fun h => ?_) (fun h => ?_) | refine aw_condj (by cbv) (fun h => ?_) (fun h => ?_)) <;> (try simp (disch := omega) only [hj, std, cmpI, cmpB, satB, Bool.not_eq_true, Bool.not_eq_false, decide_eq_true_eq, decide_eq_false_iff_not, beq_iff_eq, bne_iff_ne, bne_eq_false_iff_eq, beq_eq_false_iff_ne, ne_eq, reduceCtorEq, not_true_eq_false, not_false_eq_true, pl0, if_true, cmpS_eq, cmpS_neq, Bool.not_eq_eq_eq_not, Bool.not_true, Bool.not_false, Bool.not_eq_true', ite0, b3, hds, add64, sub64] at h) <;> (try (exfalso; omega))) | (with_reducible refine tr_alt (fun h => ?_) ?_ <;> (try (exfalso; omega))) | (with_reducible refine tr_ob ?_ ?_) | (with_reducible refine tr_done ?_) | (refine aw_tr hj tok book0 (by cbv) ?_) | (refine aw_seq fun K hK => ?_) | (refine aw_tr1 hj tok book0 (by cbv) ?_) | (refine aw_skip ?_) | (refine aw_block ?_) | (refine aw_exit ?_) | (refine aw_ret ⟨.inr rfl, ret_okj hj (by cbv) ?_ ?_⟩) | (refine aw_ret ?_) | (with_reducible refine th_n ?_) | (with_reducible refine th_r ?_) | (with_reducible refine th_x ?_) | (with_reducible refine blk_n ?_) | (with_reducible refine blk_r ?_) | (with_reducible refine blk_x ?_) | (with_reducible refine blk_y rfl ?_) | (refine ⟨.inr rfl, ret_okj hj (by cbv) ?_ ?_⟩) | (refine ⟨.inl rfl, ret_okj hj (by cbv) ?_ ?_⟩) | ((with_reducible refine ⟨(_, _), by cbv, ?_, ?_⟩)) | ((with_reducible refine ⟨_, by cbv, ?_, ?_⟩)) | (with_reducible apply_assumption -symm -exfalso only [*]))
      all_goals ((try subst y_txtL))
      all_goals (try (repeat' first | with_reducible exact obl0 | with_reducible refine obl1 ?_ ?_))
      all_goals (try first | with_reducible exact True.intro | ((first | refine ob_le hj ?_ | refine ob_lei hj ?_ | refine ob_inb hj ?_ | refine ob_pos hj ?_ | refine ob_ne0 hj ?_ | refine ob_eqb hj ?_); (first | rfl | first | omega | (simp only [hj, std]; split <;> omega) | (simp (disch := omega) only [hj, std, cmpI, cmpB, satB, add64, sub64, ite0, pl0, pl2, pl3, sb0, if_true, if_false, eq_self, hcl, b3, hds] <;> omega) | (simp (disch := omega) [hj, std, cmpI, cmpB, satB, add64, sub64, ite0, pl0, pl2, pl3, sb0, if_true, if_false, eq_self, hcl, b3, hds] <;> omega))) | ((refine ob_ok hj ?_; simp only [hj, std, ite0, hds]; first | exact b2 | exact c1)) | ((rw [hj]; have w8 := hz8 (by assumption); exact (show o2.size + 2 ≤ 9223372036854775807 by omega))))
      · have hT2 : itsT It0 (o2 ++ barB) = T2 := by rw [← hbT (by omega)]; exact hT2
        refine aw_lpj hj [(0, .keep), (3, .keep), (4, .keep), (5, .keep), (6, .keep)] [] (fun (⟨q, o3⟩ : Int × ByteArray) => stOf 76 [(0, .one (.c (.sl n cs))), (3, .one (.c (vS o3))), (4, .one (.c (vI i))), (5, .one (.c (vI k))), (6, .one (.c (vI q)))] []) (fun (⟨q, o3⟩ : Int × ByteArray) => It0.length - q.toNat) (fun (⟨q, o3⟩ : Int × ByteArray) => 0 ≤ q ∧ q ≤ It0.length ∧ itsT (It0.drop q.toNat) o3 = T2) ((0, _)) (by generalize @txtL = x_txtL; cbv) ?_ (fun ⟨q, o3⟩ hI => ?_)
        · (try rw [hj]); exact ⟨by omega, by omega, hT2⟩
        obtain ⟨q1, q2, hQ⟩ := hI
        rcases Decidable.em (q < (It0.length : Int)) with hq | hq
        · obtain ⟨d1, d2⟩ := at_itC (a := It0) (i := q.toNat) (by omega)
          rw [drop_tAt (by omega : q.toNat < It0.length)] at hQ
          have hQ2 : itsT (It0.drop (q.toNat + 1)) (o3 ++ itT (tAt It0 q.toNat)) = T2 := hQ
          have hz9 : (o3 ++ itT (tAt It0 q.toNat)).size ≤ 1099511627776 := by
            have h1 := itsT_sz (It0.drop (q.toNat + 1)) (o3 ++ itT (tAt It0 q.toNat))
            rw [hQ2] at h1; omega
          clear hQ
          rw [← c3] at d1 d2
          generalize tAt It0 q.toNat = Y at *
          obtain ⟨bb, t⟩ := Y
          dsimp only at d1 d2
          have f1 : gb (cellAt (gc (cellAt ds k.toNat)) (q.toNat * 2)) = bb := by rw [d1]; rfl
          have f2 : gs (cellAt (gc (cellAt ds k.toNat)) (q.toNat * 2 + 1)) = t := by rw [d2]; rfl
          have f3 : (q + 1).toNat = q.toNat + 1 := by omega
          have g1 : bb = true → o3 ++ sqB ++ t ++ quB = o3 ++ itT (bb, t) ∧ o3.size + t.size + 3 ≤ 1099511627776 := fun h => by
            subst h
            refine ⟨by unfold itT; rw [if_pos rfl]; simp only [ByteArray.append_assoc], ?_⟩
            have h2 : (o3 ++ itT (true, t)).size = o3.size + (2 + t.size + 1) := by
              unfold itT; rw [if_pos rfl]; rw [ByteArray.size_append, ByteArray.size_append, ByteArray.size_append]; rfl
            omega
          have g2 : bb = false → o3 ++ spB ++ t = o3 ++ itT (bb, t) ∧ o3.size + t.size + 1 ≤ 1099511627776 := fun h => by
            subst h
            refine ⟨by unfold itT; rw [if_neg (by simp)]; simp only [ByteArray.append_assoc], ?_⟩
            have h2 : (o3 ++ itT (false, t)).size = o3.size + (1 + t.size) := by
              unfold itT; rw [if_neg (by simp)]; rw [ByteArray.size_append, ByteArray.size_append]; rfl
            omega
          have w1 : (o3 ++ sqB).size = o3.size + 2 := ByteArray.size_append
          have w2 : (o3 ++ sqB ++ t).size = o3.size + 2 + t.size := by rw [ByteArray.size_append, w1]
          have w3 : (o3 ++ spB).size = o3.size + 1 := ByteArray.size_append
          generalize y_txtL : @txtL = x_txtL at *
          (repeat' first | ((first | with_reducible refine tr_cut (fun h => ?_) (fun h => ?_) | refine aw_condj (by cbv) (fun h => ?_) (fun h => ?_)) <;> (try simp (disch := omega) only [hj, std, cmpI, cmpB, satB, Bool.not_eq_true, Bool.not_eq_false, decide_eq_true_eq, decide_eq_false_iff_not, beq_iff_eq, bne_iff_ne, bne_eq_false_iff_eq, beq_eq_false_iff_ne, ne_eq, reduceCtorEq, not_true_eq_false, not_false_eq_true, pl0, if_true, cmpS_eq, cmpS_neq, Bool.not_eq_eq_eq_not, Bool.not_true, Bool.not_false, Bool.not_eq_true', ite0, b3, hds, c2, f1, f2, add64, sub64] at h) <;> (try (exfalso; omega))) | (with_reducible refine tr_alt (fun h => ?_) ?_ <;> (try (exfalso; omega))) | (with_reducible refine tr_ob ?_ ?_) | (with_reducible refine tr_done ?_) | (refine aw_tr hj tok book0 (by cbv) ?_) | (refine aw_seq fun K hK => ?_) | (refine aw_tr1 hj tok book0 (by cbv) ?_) | (refine aw_skip ?_) | (refine aw_block ?_) | (refine aw_exit ?_) | (refine aw_ret ⟨.inr rfl, ret_okj hj (by cbv) ?_ ?_⟩) | (refine aw_ret ?_) | (with_reducible refine th_n ?_) | (with_reducible refine th_r ?_) | (with_reducible refine th_x ?_) | (with_reducible refine blk_n ?_) | (with_reducible refine blk_r ?_) | (with_reducible refine blk_x ?_) | (with_reducible refine blk_y rfl ?_) | (refine ⟨.inr rfl, ret_okj hj (by cbv) ?_ ?_⟩) | (refine ⟨.inl rfl, ret_okj hj (by cbv) ?_ ?_⟩) | ((with_reducible refine ⟨(_, _), by cbv, ?_, ?_⟩)) | ((with_reducible refine ⟨_, by cbv, ?_, ?_⟩)) | (with_reducible apply_assumption -symm -exfalso only [*]))
          all_goals ((try subst y_txtL))
          all_goals (try (have gg : bb = true := (by assumption); obtain ⟨v1, v2⟩ := g1 gg))
          all_goals (try (have gg : bb = false := (by assumption); obtain ⟨v1, v2⟩ := g2 gg))
          all_goals (try (repeat' first | with_reducible exact obl0 | with_reducible refine obl1 ?_ ?_))
          all_goals (try first | with_reducible exact True.intro | ((first | refine ob_le hj ?_ | refine ob_lei hj ?_ | refine ob_inb hj ?_ | refine ob_pos hj ?_ | refine ob_ne0 hj ?_ | refine ob_eqb hj ?_); (first | rfl | first | omega | (simp only [hj, std]; split <;> omega) | (simp (disch := omega) only [hj, std, cmpI, cmpB, satB, add64, sub64, ite0, pl0, pl2, pl3, sb0, if_true, if_false, eq_self, hcl, b3, hds, l1, c2, c4, f1, f2] <;> omega) | (simp (disch := omega) [hj, std, cmpI, cmpB, satB, add64, sub64, ite0, pl0, pl2, pl3, sb0, if_true, if_false, eq_self, hcl, b3, hds, l1, c2, c4, f1, f2] <;> omega))) | ((refine ob_ok hj ?_; simp only [hj, std, ite0, hds, d1, d2]; first | exact b2 | exact c1 | exact ⟨_, rfl⟩)) | ((simp only [hj, std, ite0, hds, f2]; first | exact (show o3.size + 2 ≤ 9223372036854775807 by omega) | exact (show (o3 ++ sqB).size + t.size ≤ 9223372036854775807 by omega) | exact (show (o3 ++ sqB ++ t).size + 1 ≤ 9223372036854775807 by omega) | exact (show o3.size + 1 ≤ 9223372036854775807 by omega) | exact (show (o3 ++ spB).size + t.size ≤ 9223372036854775807 by omega))) | ((simp (disch := omega) only [hj, std, add64, ite0, hds, f2]; first | omega | (refine ⟨by omega, by omega, ?_⟩; rw [f3]; first | exact (congrArg _ v1).trans hQ2))))
        · have hfq : o3 = T2 := by rw [List.drop_eq_nil_of_le (by omega)] at hQ; exact hQ
          have f3 : (k + 1).toNat = k.toNat + 1 := by omega
          generalize y_txtL : @txtL = x_txtL at *
          (repeat' first | ((first | with_reducible refine tr_cut (fun h => ?_) (fun h => ?_) | refine aw_condj (by cbv) (fun h => ?_) (fun h => ?_)) <;> (try simp (disch := omega) only [hj, std, cmpI, cmpB, satB, Bool.not_eq_true, Bool.not_eq_false, decide_eq_true_eq, decide_eq_false_iff_not, beq_iff_eq, bne_iff_ne, bne_eq_false_iff_eq, beq_eq_false_iff_ne, ne_eq, reduceCtorEq, not_true_eq_false, not_false_eq_true, pl0, if_true, cmpS_eq, cmpS_neq, Bool.not_eq_eq_eq_not, Bool.not_true, Bool.not_false, Bool.not_eq_true', ite0, b3, hds, c2, add64, sub64] at h) <;> (try (exfalso; omega))) | (with_reducible refine tr_alt (fun h => ?_) ?_ <;> (try (exfalso; omega))) | (with_reducible refine tr_ob ?_ ?_) | (with_reducible refine tr_done ?_) | (refine aw_tr hj tok book0 (by cbv) ?_) | (refine aw_seq fun K hK => ?_) | (refine aw_tr1 hj tok book0 (by cbv) ?_) | (refine aw_skip ?_) | (refine aw_block ?_) | (refine aw_exit ?_) | (refine aw_ret ⟨.inr rfl, ret_okj hj (by cbv) ?_ ?_⟩) | (refine aw_ret ?_) | (with_reducible refine th_n ?_) | (with_reducible refine th_r ?_) | (with_reducible refine th_x ?_) | (with_reducible refine blk_n ?_) | (with_reducible refine blk_r ?_) | (with_reducible refine blk_x ?_) | (with_reducible refine blk_y rfl ?_) | (refine ⟨.inr rfl, ret_okj hj (by cbv) ?_ ?_⟩) | (refine ⟨.inl rfl, ret_okj hj (by cbv) ?_ ?_⟩) | ((with_reducible refine ⟨(_, _), by cbv, ?_, ?_⟩)) | ((with_reducible refine ⟨_, by cbv, ?_, ?_⟩)) | (with_reducible apply_assumption -symm -exfalso only [*]))
          all_goals ((try subst y_txtL))
          all_goals (try (repeat' first | with_reducible exact obl0 | with_reducible refine obl1 ?_ ?_))
          all_goals (try first | with_reducible exact True.intro | ((first | refine ob_le hj ?_ | refine ob_lei hj ?_ | refine ob_inb hj ?_ | refine ob_pos hj ?_ | refine ob_ne0 hj ?_ | refine ob_eqb hj ?_); (first | rfl | first | omega | (simp only [hj, std]; split <;> omega) | (simp (disch := omega) only [hj, std, cmpI, cmpB, satB, add64, sub64, ite0, pl0, pl2, pl3, sb0, if_true, if_false, eq_self, hcl, b3, hds, l1, c2] <;> omega) | (simp (disch := omega) [hj, std, cmpI, cmpB, satB, add64, sub64, ite0, pl0, pl2, pl3, sb0, if_true, if_false, eq_self, hcl, b3, hds, l1, c2] <;> omega))) | ((refine ob_ok hj ?_; simp only [hj, std, ite0, hds]; first | exact b2 | exact c1)) | ((simp (disch := omega) only [hj, std, add64, ite0]; first | omega | (refine ⟨by omega, by omega, ?_⟩; rw [f3, hfq, decide_eq_true (by omega : (0 : Int) < k + 1)]; exact hK2))))
      · have hT2 : itsT It0 (o2) = T2 := by rw [hbF (by omega)] at hT2; exact hT2
        refine aw_lpj hj [(0, .keep), (3, .keep), (4, .keep), (5, .keep), (6, .keep)] [] (fun (⟨q, o3⟩ : Int × ByteArray) => stOf 76 [(0, .one (.c (.sl n cs))), (3, .one (.c (vS o3))), (4, .one (.c (vI i))), (5, .one (.c (vI k))), (6, .one (.c (vI q)))] []) (fun (⟨q, o3⟩ : Int × ByteArray) => It0.length - q.toNat) (fun (⟨q, o3⟩ : Int × ByteArray) => 0 ≤ q ∧ q ≤ It0.length ∧ itsT (It0.drop q.toNat) o3 = T2) ((0, _)) (by generalize @txtL = x_txtL; cbv) ?_ (fun ⟨q, o3⟩ hI => ?_)
        · (try rw [hj]); exact ⟨by omega, by omega, hT2⟩
        obtain ⟨q1, q2, hQ⟩ := hI
        rcases Decidable.em (q < (It0.length : Int)) with hq | hq
        · obtain ⟨d1, d2⟩ := at_itC (a := It0) (i := q.toNat) (by omega)
          rw [drop_tAt (by omega : q.toNat < It0.length)] at hQ
          have hQ2 : itsT (It0.drop (q.toNat + 1)) (o3 ++ itT (tAt It0 q.toNat)) = T2 := hQ
          have hz9 : (o3 ++ itT (tAt It0 q.toNat)).size ≤ 1099511627776 := by
            have h1 := itsT_sz (It0.drop (q.toNat + 1)) (o3 ++ itT (tAt It0 q.toNat))
            rw [hQ2] at h1; omega
          clear hQ
          rw [← c3] at d1 d2
          generalize tAt It0 q.toNat = Y at *
          obtain ⟨bb, t⟩ := Y
          dsimp only at d1 d2
          have f1 : gb (cellAt (gc (cellAt ds k.toNat)) (q.toNat * 2)) = bb := by rw [d1]; rfl
          have f2 : gs (cellAt (gc (cellAt ds k.toNat)) (q.toNat * 2 + 1)) = t := by rw [d2]; rfl
          have f3 : (q + 1).toNat = q.toNat + 1 := by omega
          have g1 : bb = true → o3 ++ sqB ++ t ++ quB = o3 ++ itT (bb, t) ∧ o3.size + t.size + 3 ≤ 1099511627776 := fun h => by
            subst h
            refine ⟨by unfold itT; rw [if_pos rfl]; simp only [ByteArray.append_assoc], ?_⟩
            have h2 : (o3 ++ itT (true, t)).size = o3.size + (2 + t.size + 1) := by
              unfold itT; rw [if_pos rfl]; rw [ByteArray.size_append, ByteArray.size_append, ByteArray.size_append]; rfl
            omega
          have g2 : bb = false → o3 ++ spB ++ t = o3 ++ itT (bb, t) ∧ o3.size + t.size + 1 ≤ 1099511627776 := fun h => by
            subst h
            refine ⟨by unfold itT; rw [if_neg (by simp)]; simp only [ByteArray.append_assoc], ?_⟩
            have h2 : (o3 ++ itT (false, t)).size = o3.size + (1 + t.size) := by
              unfold itT; rw [if_neg (by simp)]; rw [ByteArray.size_append, ByteArray.size_append]; rfl
            omega
          have w1 : (o3 ++ sqB).size = o3.size + 2 := ByteArray.size_append
          have w2 : (o3 ++ sqB ++ t).size = o3.size + 2 + t.size := by rw [ByteArray.size_append, w1]
          have w3 : (o3 ++ spB).size = o3.size + 1 := ByteArray.size_append
          generalize y_txtL : @txtL = x_txtL at *
          (repeat' first | ((first | with_reducible refine tr_cut (fun h => ?_) (fun h => ?_) | refine aw_condj (by cbv) (fun h => ?_) (fun h => ?_)) <;> (try simp (disch := omega) only [hj, std, cmpI, cmpB, satB, Bool.not_eq_true, Bool.not_eq_false, decide_eq_true_eq, decide_eq_false_iff_not, beq_iff_eq, bne_iff_ne, bne_eq_false_iff_eq, beq_eq_false_iff_ne, ne_eq, reduceCtorEq, not_true_eq_false, not_false_eq_true, pl0, if_true, cmpS_eq, cmpS_neq, Bool.not_eq_eq_eq_not, Bool.not_true, Bool.not_false, Bool.not_eq_true', ite0, b3, hds, c2, f1, f2, add64, sub64] at h) <;> (try (exfalso; omega))) | (with_reducible refine tr_alt (fun h => ?_) ?_ <;> (try (exfalso; omega))) | (with_reducible refine tr_ob ?_ ?_) | (with_reducible refine tr_done ?_) | (refine aw_tr hj tok book0 (by cbv) ?_) | (refine aw_seq fun K hK => ?_) | (refine aw_tr1 hj tok book0 (by cbv) ?_) | (refine aw_skip ?_) | (refine aw_block ?_) | (refine aw_exit ?_) | (refine aw_ret ⟨.inr rfl, ret_okj hj (by cbv) ?_ ?_⟩) | (refine aw_ret ?_) | (with_reducible refine th_n ?_) | (with_reducible refine th_r ?_) | (with_reducible refine th_x ?_) | (with_reducible refine blk_n ?_) | (with_reducible refine blk_r ?_) | (with_reducible refine blk_x ?_) | (with_reducible refine blk_y rfl ?_) | (refine ⟨.inr rfl, ret_okj hj (by cbv) ?_ ?_⟩) | (refine ⟨.inl rfl, ret_okj hj (by cbv) ?_ ?_⟩) | ((with_reducible refine ⟨(_, _), by cbv, ?_, ?_⟩)) | ((with_reducible refine ⟨_, by cbv, ?_, ?_⟩)) | (with_reducible apply_assumption -symm -exfalso only [*]))
          all_goals ((try subst y_txtL))
          all_goals (try (have gg : bb = true := (by assumption); obtain ⟨v1, v2⟩ := g1 gg))
          all_goals (try (have gg : bb = false := (by assumption); obtain ⟨v1, v2⟩ := g2 gg))
          all_goals (try (repeat' first | with_reducible exact obl0 | with_reducible refine obl1 ?_ ?_))
          all_goals (try first | with_reducible exact True.intro | ((first | refine ob_le hj ?_ | refine ob_lei hj ?_ | refine ob_inb hj ?_ | refine ob_pos hj ?_ | refine ob_ne0 hj ?_ | refine ob_eqb hj ?_); (first | rfl | first | omega | (simp only [hj, std]; split <;> omega) | (simp (disch := omega) only [hj, std, cmpI, cmpB, satB, add64, sub64, ite0, pl0, pl2, pl3, sb0, if_true, if_false, eq_self, hcl, b3, hds, l1, c2, c4, f1, f2] <;> omega) | (simp (disch := omega) [hj, std, cmpI, cmpB, satB, add64, sub64, ite0, pl0, pl2, pl3, sb0, if_true, if_false, eq_self, hcl, b3, hds, l1, c2, c4, f1, f2] <;> omega))) | ((refine ob_ok hj ?_; simp only [hj, std, ite0, hds, d1, d2]; first | exact b2 | exact c1 | exact ⟨_, rfl⟩)) | ((simp only [hj, std, ite0, hds, f2]; first | exact (show o3.size + 2 ≤ 9223372036854775807 by omega) | exact (show (o3 ++ sqB).size + t.size ≤ 9223372036854775807 by omega) | exact (show (o3 ++ sqB ++ t).size + 1 ≤ 9223372036854775807 by omega) | exact (show o3.size + 1 ≤ 9223372036854775807 by omega) | exact (show (o3 ++ spB).size + t.size ≤ 9223372036854775807 by omega))) | ((simp (disch := omega) only [hj, std, add64, ite0, hds, f2]; first | omega | (refine ⟨by omega, by omega, ?_⟩; rw [f3]; first | exact (congrArg _ v1).trans hQ2))))
        · have hfq : o3 = T2 := by rw [List.drop_eq_nil_of_le (by omega)] at hQ; exact hQ
          have f3 : (k + 1).toNat = k.toNat + 1 := by omega
          generalize y_txtL : @txtL = x_txtL at *
          (repeat' first | ((first | with_reducible refine tr_cut (fun h => ?_) (fun h => ?_) | refine aw_condj (by cbv) (fun h => ?_) (fun h => ?_)) <;> (try simp (disch := omega) only [hj, std, cmpI, cmpB, satB, Bool.not_eq_true, Bool.not_eq_false, decide_eq_true_eq, decide_eq_false_iff_not, beq_iff_eq, bne_iff_ne, bne_eq_false_iff_eq, beq_eq_false_iff_ne, ne_eq, reduceCtorEq, not_true_eq_false, not_false_eq_true, pl0, if_true, cmpS_eq, cmpS_neq, Bool.not_eq_eq_eq_not, Bool.not_true, Bool.not_false, Bool.not_eq_true', ite0, b3, hds, c2, add64, sub64] at h) <;> (try (exfalso; omega))) | (with_reducible refine tr_alt (fun h => ?_) ?_ <;> (try (exfalso; omega))) | (with_reducible refine tr_ob ?_ ?_) | (with_reducible refine tr_done ?_) | (refine aw_tr hj tok book0 (by cbv) ?_) | (refine aw_seq fun K hK => ?_) | (refine aw_tr1 hj tok book0 (by cbv) ?_) | (refine aw_skip ?_) | (refine aw_block ?_) | (refine aw_exit ?_) | (refine aw_ret ⟨.inr rfl, ret_okj hj (by cbv) ?_ ?_⟩) | (refine aw_ret ?_) | (with_reducible refine th_n ?_) | (with_reducible refine th_r ?_) | (with_reducible refine th_x ?_) | (with_reducible refine blk_n ?_) | (with_reducible refine blk_r ?_) | (with_reducible refine blk_x ?_) | (with_reducible refine blk_y rfl ?_) | (refine ⟨.inr rfl, ret_okj hj (by cbv) ?_ ?_⟩) | (refine ⟨.inl rfl, ret_okj hj (by cbv) ?_ ?_⟩) | ((with_reducible refine ⟨(_, _), by cbv, ?_, ?_⟩)) | ((with_reducible refine ⟨_, by cbv, ?_, ?_⟩)) | (with_reducible apply_assumption -symm -exfalso only [*]))
          all_goals ((try subst y_txtL))
          all_goals (try (repeat' first | with_reducible exact obl0 | with_reducible refine obl1 ?_ ?_))
          all_goals (try first | with_reducible exact True.intro | ((first | refine ob_le hj ?_ | refine ob_lei hj ?_ | refine ob_inb hj ?_ | refine ob_pos hj ?_ | refine ob_ne0 hj ?_ | refine ob_eqb hj ?_); (first | rfl | first | omega | (simp only [hj, std]; split <;> omega) | (simp (disch := omega) only [hj, std, cmpI, cmpB, satB, add64, sub64, ite0, pl0, pl2, pl3, sb0, if_true, if_false, eq_self, hcl, b3, hds, l1, c2] <;> omega) | (simp (disch := omega) [hj, std, cmpI, cmpB, satB, add64, sub64, ite0, pl0, pl2, pl3, sb0, if_true, if_false, eq_self, hcl, b3, hds, l1, c2] <;> omega))) | ((refine ob_ok hj ?_; simp only [hj, std, ite0, hds]; first | exact b2 | exact c1)) | ((simp (disch := omega) only [hj, std, add64, ite0]; first | omega | (refine ⟨by omega, by omega, ?_⟩; rw [f3, hfq, decide_eq_true (by omega : (0 : Int) < k + 1)]; exact hK2))))
    · have hfk : o2 = T1 := by rw [List.drop_eq_nil_of_le (by omega)] at hK; exact hK
      have hz10 : T1.size + 3 ≤ 1099511627776 := by rw [ByteArray.size_append] at hz4; exact hz4
      generalize y_txtL : @txtL = x_txtL at *
      (repeat' first | ((first | with_reducible refine tr_cut (fun h => ?_) (fun h => ?_) | refine aw_condj (by cbv) (fun h => ?_) (fun h => ?_)) <;> (try simp (disch := omega) only [hj, std, cmpI, cmpB, satB, Bool.not_eq_true, Bool.not_eq_false, decide_eq_true_eq, decide_eq_false_iff_not, beq_iff_eq, bne_iff_ne, bne_eq_false_iff_eq, beq_eq_false_iff_ne, ne_eq, reduceCtorEq, not_true_eq_false, not_false_eq_true, pl0, if_true, cmpS_eq, cmpS_neq, Bool.not_eq_eq_eq_not, Bool.not_true, Bool.not_false, Bool.not_eq_true', ite0, b3, add64, sub64] at h) <;> (try (exfalso; omega))) | (with_reducible refine tr_alt (fun h => ?_) ?_ <;> (try (exfalso; omega))) | (with_reducible refine tr_ob ?_ ?_) | (with_reducible refine tr_done ?_) | (refine aw_tr hj tok book0 (by cbv) ?_) | (refine aw_seq fun K hK => ?_) | (refine aw_tr1 hj tok book0 (by cbv) ?_) | (refine aw_skip ?_) | (refine aw_block ?_) | (refine aw_exit ?_) | (refine aw_ret ⟨.inr rfl, ret_okj hj (by cbv) ?_ ?_⟩) | (refine aw_ret ?_) | (with_reducible refine th_n ?_) | (with_reducible refine th_r ?_) | (with_reducible refine th_x ?_) | (with_reducible refine blk_n ?_) | (with_reducible refine blk_r ?_) | (with_reducible refine blk_x ?_) | (with_reducible refine blk_y rfl ?_) | (refine ⟨.inr rfl, ret_okj hj (by cbv) ?_ ?_⟩) | (refine ⟨.inl rfl, ret_okj hj (by cbv) ?_ ?_⟩) | ((with_reducible refine ⟨(_, _), by cbv, ?_, ?_⟩)) | ((with_reducible refine ⟨_, by cbv, ?_, ?_⟩)) | (with_reducible apply_assumption -symm -exfalso only [*]))
      all_goals ((try subst y_txtL))
      all_goals (try (repeat' first | with_reducible exact obl0 | with_reducible refine obl1 ?_ ?_))
      all_goals (try first | with_reducible exact True.intro | ((first | refine ob_le hj ?_ | refine ob_lei hj ?_ | refine ob_inb hj ?_ | refine ob_pos hj ?_ | refine ob_ne0 hj ?_ | refine ob_eqb hj ?_); (first | rfl | first | omega | (simp only [hj, std]; split <;> omega) | (simp (disch := omega) only [hj, std, cmpI, cmpB, satB, add64, sub64, ite0, pl0, pl2, pl3, sb0, if_true, if_false, eq_self, hcl, b3] <;> omega) | (simp (disch := omega) [hj, std, cmpI, cmpB, satB, add64, sub64, ite0, pl0, pl2, pl3, sb0, if_true, if_false, eq_self, hcl, b3] <;> omega))) | ((refine ob_ok hj ?_; simp only [hj, std, ite0]; exact b2)) | ((rw [hj, hfk]; exact (show T1.size + 3 ≤ 9223372036854775807 by omega))) | ((simp (disch := omega) only [hj, std, add64, ite0]; first | omega | (refine ⟨by omega, by omega, ?_⟩; rw [f0, hfk]; exact hI2))))
  · have hfin : o = txtL L := by rw [show i.toNat = n by omega, hend] at hI; exact hI
    generalize y_txtL : @txtL = x_txtL at *
    (repeat' first | ((first | with_reducible refine tr_cut (fun h => ?_) (fun h => ?_) | refine aw_condj (by cbv) (fun h => ?_) (fun h => ?_)) <;> (try simp (disch := omega) only [hj, std, cmpI, cmpB, satB, Bool.not_eq_true, Bool.not_eq_false, decide_eq_true_eq, decide_eq_false_iff_not, beq_iff_eq, bne_iff_ne, bne_eq_false_iff_eq, beq_eq_false_iff_ne, ne_eq, reduceCtorEq, not_true_eq_false, not_false_eq_true, pl0, if_true, cmpS_eq, cmpS_neq, Bool.not_eq_eq_eq_not, Bool.not_true, Bool.not_false, Bool.not_eq_true', add64, sub64] at h) <;> (try (exfalso; omega))) | (with_reducible refine tr_alt (fun h => ?_) ?_ <;> (try (exfalso; omega))) | (with_reducible refine tr_ob ?_ ?_) | (with_reducible refine tr_done ?_) | (refine aw_tr hj tok book0 (by cbv) ?_) | (refine aw_seq fun K hK => ?_) | (refine aw_tr1 hj tok book0 (by cbv) ?_) | (refine aw_skip ?_) | (refine aw_block ?_) | (refine aw_exit ?_) | (refine aw_ret ⟨.inr rfl, ret_okj hj (by cbv) ?_ ?_⟩) | (refine aw_ret ?_) | (with_reducible refine th_n ?_) | (with_reducible refine th_r ?_) | (with_reducible refine th_x ?_) | (with_reducible refine blk_n ?_) | (with_reducible refine blk_r ?_) | (with_reducible refine blk_x ?_) | (with_reducible refine blk_y rfl ?_) | (refine ⟨.inr rfl, ret_okj hj (by cbv) ?_ ?_⟩) | (refine ⟨.inl rfl, ret_okj hj (by cbv) ?_ ?_⟩) | ((with_reducible refine ⟨(_, _), by cbv, ?_, ?_⟩)) | ((with_reducible refine ⟨_, by cbv, ?_, ?_⟩)) | (with_reducible apply_assumption -symm -exfalso only [*]))
    all_goals ((try subst y_txtL))
    all_goals (try (repeat' first | with_reducible exact obl0 | with_reducible refine obl1 ?_ ?_))
    all_goals (try first | with_reducible exact True.intro | ((first | refine ob_le hj ?_ | refine ob_lei hj ?_ | refine ob_inb hj ?_ | refine ob_pos hj ?_ | refine ob_ne0 hj ?_ | refine ob_eqb hj ?_); (first | rfl | first | omega | (simp only [hj, std]; split <;> omega) | (simp (disch := omega) only [hj, std, cmpI, cmpB, satB, add64, sub64, ite0, pl0, pl2, pl3, sb0, if_true, if_false, eq_self] <;> omega) | (simp (disch := omega) [hj, std, cmpI, cmpB, satB, add64, sub64, ite0, pl0, pl2, pl3, sb0, if_true, if_false, eq_self] <;> omega))) | ((rw [hfin]; rfl)))
end Go.Proofs.Ytgimfjmigoibgaa.A
/-
  DERIVED: THE SHELF's CONTRACTS AT THIS DUMP, IN PLAIN WORDS (tools/lay-plain.mjs out of 'YtgimfjmigoibgaaShelfB.lean', which tools/lay-shelf.mjs wrote): THE SAME DECLARATIONS UNDER THE SAME NAMES: 'import', 'namespace', 'open', 'def', 'theorem' AND NOTHING ELSE: no command of the shelf's: FOR A HAND-IN. Each laying: the table of numbers ('.._ren') and one theorem, a field a fact of the dump's own or the kernel's comparison; each contract: ONE APPLICATION.
-/
namespace Go.Proofs
open Go.Shelf
def Ytgimfjmigoibgaa.bSt_ren : Go.Shelf.Ren := ⟨fun | 169 => 28 | n => n, fun | 70 => 57 | 9 => 9 | 0 => 0 | 72 => 59 | 37 => 39 | 127 => 91 | 3 => 3 | 5 => 5 | n => n, fun | n => n⟩
theorem Ytgimfjmigoibgaa.bSt : Go.Proofs.Lays.n169 Try.prog Ytgimfjmigoibgaa.bSt_ren := {
  mixed := by kernel_rfl
  f169 := Try.func28.trans (congrArg some (by kernel_rfl))
  t0 := Try.underlying0
  a0 := Try.isAgg0
  z0 := Try.sizeOf0
  v0 := Try.zeroValue0
  t3 := Try.underlying3
  a3 := Try.isAgg3
  z3 := Try.sizeOf3
  v3 := Try.zeroValue3
  t9 := Try.underlying9
  a9 := Try.isAgg9
  z9 := Try.sizeOf9
  v9 := Try.zeroValue9
  t37 := Try.underlying39
  a37 := Try.isAgg39
  z37 := Try.sizeOf39
  v37 := Try.zeroValue39
  t70 := Try.underlying57
  a70 := Try.isAgg57
  z70 := Try.sizeOf57
  v70 := Try.zeroValue57
  t72 := Try.underlying59
  a72 := Try.isAgg59
  z72 := Try.sizeOf59
  v72 := Try.zeroValue59
  t127 := Try.underlying91
  a127 := Try.isAgg91
  z127 := Try.sizeOf91
  v127 := Try.zeroValue91 }
end Go.Proofs
/- strings.Builder: what writes to it does, by hand. -/
set_option linter.unusedSimpArgs false
set_option linter.unusedVariables false
set_option maxRecDepth 100000
set_option maxHeartbeats 4000000
namespace Go.Proofs.Ytgimfjmigoibgaa
open Go Go.RowKit Go.Proofs
abbrev bldT : TypeId := 59
abbrev byT : TypeId := 5
abbrev bAddr (b : Nat) : Value := .pointer (some ⟨b, 0, none⟩)
theorem bldX : Builder.Extra Try.prog Ytgimfjmigoibgaa.bSt_ren where
  sizeBuilder := by kernel_rfl
  liesBuilder := by kernel_rfl
  t5 := Try.underlying5
  a5 := Try.isAgg5
  z5 := Try.sizeOf5
  v5 := Try.zeroValue5
  infoByte := by kernel_rfl
  cellsByte := by kernel_rfl
  sizeByte := by kernel_rfl
  neB5 := by decide
set_option maxHeartbeats 4000000 in
set_option maxRecDepth 100000 in
theorem check_used (b : Nat) (w : World) (h0 : w.cell? ⟨b, 0, none⟩ = some (bAddr b)) :
    Calls Try.prog 50 #[bAddr b] w fun e w' => e = .returned (.tuple #[]) ∧ w' = w := by
  obtain ⟨j, hj, _⟩ := Option.map_eq_some_iff.1 (show (Try.prog.info? bldT).map (·.size) = some 2 by kernel_rfl)
  go_enter Try.func50, Try.ntmps50
  go_wp2
  rw [Lib.run_neq_ptr_same w _ Try.underlying57 hj]
  go_wp2
  go_end0
  exact ⟨rfl, rfl⟩
set_option maxHeartbeats 4000000 in
set_option maxRecDepth 100000 in
theorem check_fresh (b : Nat) (w : World) (h0 : w.cell? ⟨b, 0, none⟩ = some (.pointer none)) (hsh : w.shape? b = some (bldT, 2)) (hfz : w.frozen? ⟨b, 0, none⟩ = false) :
    Calls Try.prog 50 #[bAddr b] w fun e w' => e = .returned (.tuple #[]) ∧ w' = w.setCell ⟨b, 0, none⟩ (bAddr b) := by
  obtain ⟨j, hj, hjs⟩ := Option.map_eq_some_iff.1 (show (Try.prog.info? bldT).map (·.size) = some 2 by kernel_rfl)
  go_enter Try.func50, Try.ntmps50
  go_wp2
  rw [Lib.run_to_unsafe w ⟨b, 0, none⟩ Try.underlying57 Try.underlying109 hj (by rw [hjs]; decide) hsh (Nat.zero_lt_succ 1)]
  simp only [Result.andThen]
  rw [Oper.upon_value]
  go_wp2
  rw [run_callFunc_extern Try.func76 (by kernel_rfl) (by kernel_rfl) (by kernel_rfl) (e := Extern.AbiNoEscape.same) (by kernel_rfl)]
  rw [Lib.run_noEscape]
  simp only [Result.andThen]
  rw [Oper.upon_value]
  go_wp2
  rw [Lib.run_from_unsafe w ⟨b, 0, none⟩ Try.underlying109 Try.underlying57 hj hsh (by kernel_rfl)]
  simp only [Result.andThen]
  rw [Oper.upon_value]
  go_wp2
  go_end0
  exact ⟨rfl, rfl⟩
end Go.Proofs.Ytgimfjmigoibgaa
/- strings.Builder: WriteString and String. -/
set_option linter.unusedSimpArgs false
set_option linter.unusedVariables false
set_option maxRecDepth 100000
set_option maxHeartbeats 4000000
namespace Go.Proofs.Ytgimfjmigoibgaa
open Go Go.RowKit Go.Proofs
theorem bldCheck {B b : Nat} {bs : List Value} {w : World} (h : Lib.IsBuilderF bldT byT B b bs w) :
    Calls Try.prog 50 #[bAddr b] w fun e w' => e = .returned (.tuple #[]) ∧ Lib.BuilderAtF bldT byT B b (bAddr b) bs w' ∧ Below B w w' ∧ Lib.OthersKept byT (some b) w w' := by
  rcases h with h | h
  · refine (check_fresh b w h.cell0 h.shape h.frozen0).mono ?_
    rintro e w' ⟨rfl, rfl⟩
    exact ⟨rfl, h.used _, (Below.refl B w).setCell (p := ⟨b, 0, none⟩) h.1 _, (Lib.OthersKept.refl _ _ w).setCell ⟨b, 0, none⟩ rfl _⟩
  · refine (check_used b w h.cell0).mono ?_
    rintro e w' ⟨rfl, rfl⟩
    exact ⟨rfl, h, Below.refl B _, Lib.OthersKept.refl _ _ _⟩
set_option maxHeartbeats 4000000 in
set_option maxRecDepth 100000 in
theorem bldWrite (B b : Nat) (bs : List Value) (s : ByteArray) (w : World) (h : Lib.IsBuilderF bldT byT B b bs w) (hlen : bs.length + s.size ≤ 140737488355328) (hBw : B ≤ w.heap.size) :
    Calls Try.prog 27 #[bAddr b, .string s] w fun e w' => e = .returned (.tuple #[.int .i64 s.size, .nilIface]) ∧ Lib.IsBuilderF bldT byT B b (bs ++ Lib.strCells s) w' ∧ Below B w w' ∧ Lib.OthersKept byT (some b) w w' := by
  obtain ⟨i0, hi, hz0, hz1, hz2⟩ := info_parts bldX.infoByte
  go_enter Try.func27, Try.ntmps27
  go_wp2_with (go_at_call 50; refine (bldCheck (B := B) (b := b) (bs := bs) h).mono ?_)
  rintro e w1 ⟨rfl, h1, hb1, hk1⟩
  obtain ⟨hB, v, hbk, hown, hne⟩ := h1
  have c0 : w1.cell? ⟨b, 0, none⟩ = some (bAddr b) := by rw [Lib.cell_of_heap hbk]; rfl
  have c1 : w1.cell? ⟨b, 1, none⟩ = some v := by rw [Lib.cell_of_heap hbk]; rfl
  go_wp2_with (at_builtin; refine Lib.wpList_append_own_stringF _ rfl _ _ 39 9 rfl B byT i0 Try.underlying39 Try.underlying9 hi hz0 hz1 hz2 _ _ _ rfl hown s rfl ?c3 ?c4 ?c5 ?_)
  case c3 => unfold maxLen; omega
  case c4 => omega
  case c5 => have := hb1.size; omega
  intro v' w2 hown' hgrow _
  have hlt : b < w1.heap.size := by
    rcases Nat.lt_or_ge b w1.heap.size with h' | h'
    · exact h'
    · simp [Array.getElem?_eq_none h'] at hbk
  have hb2 : w2.heap[b]? = some (.cells #[bAddr b, v] bldT (0, 0)) := by
    rw [hgrow.block b hlt (fun e => hne e.symm)]
    exact hbk
  have d0 : w2.cell? ⟨b, 0, none⟩ = some (bAddr b) := by rw [Lib.cell_of_heap hb2]; rfl
  have d1 : w2.cell? ⟨b, 1, none⟩ = some v := by rw [Lib.cell_of_heap hb2]; rfl
  have f1 : w2.frozen? ⟨b, 1, none⟩ = false := Lib.frozen_of_heap hb2 1
  obtain ⟨ao, n', cap, rfl⟩ : ∃ ao n' cap, v' = .slice ao n' cap := by
    rcases hown'.2 with ⟨hv, _⟩ | ⟨g, cap, cur, fz, hv, _⟩
    · exact ⟨_, _, _, hv⟩
    · exact ⟨_, _, _, hv⟩
  go_wp2
  go_ret2
  refine ⟨rfl, .inr ?_, ?_, (hk1.grown hgrow (Lib.ownsRowF_kind hown)).setCell ⟨b, 1, none⟩ rfl _⟩
  · exact Lib.BuilderAtF.put (T := bldT) (e := byT) hB hb2 (bs' := bs ++ Lib.strCells s) (by simpa [Lib.strCells_length] using hown') (by decide)
  · exact (hb1.grown hgrow (by have := hb1.size; omega) (fun k hk => (hown.lt k hk).1)).setCell (p := ⟨b, 1, none⟩) hB _
theorem bldString (B b : Nat) (l : List UInt8) (w : World) (h : Lib.IsBuilderF bldT byT B b (Lib.byteCells l) w) (hBw : B ≤ w.heap.size) :
    Calls Try.prog 28 #[bAddr b] w fun e w' => e = .returned (.string ⟨l.toArray⟩) ∧ Below B w w' :=
  (Any.Builder_String_any_k Ytgimfjmigoibgaa.bSt bldX B b l w h hBw).mono fun e w' ⟨h1, _, h2, _⟩ => ⟨h1, h2⟩
end Go.Proofs.Ytgimfjmigoibgaa
/- Rules as text, by the program: the walk, by hand. -/
set_option linter.unusedSimpArgs false
set_option linter.unusedVariables false
set_option maxRecDepth 100000
set_option maxHeartbeats 4000000
namespace Go.Proofs.Ytgimfjmigoibgaa
open Go Go.RowKit Go.Proofs
def BldO (w wr : World) (o : ByteArray) : Prop := Lib.IsBuilderF bldT byT w.heap.size w.heap.size (Lib.strCells o) wr ∧ Below w.heap.size w wr
theorem strCells_append (a b : ByteArray) : Lib.strCells (a ++ b) = Lib.strCells a ++ Lib.strCells b := by
  simp [Lib.strCells]
theorem BldO.start (w : World) : BldO w (w.alloc (.cells #[.pointer none, .slice none 0 0] bldT)) ByteArray.empty :=
  ⟨Lib.IsBuilderF.of (Lib.fresh_isBuilder bldT byT w), (Below.refl _ w).alloc (Nat.le_refl _) _⟩
theorem BldO.alloc {w wr : World} {o : ByteArray} (h : BldO w wr o) (x : Obj) : BldO w (wr.alloc x) o := ⟨h.1.alloc x, h.2.alloc h.2.size x⟩
theorem BldO.write {w wr : World} {o : ByteArray} (h : BldO w wr o) (s : ByteArray) (hs : (o ++ s).size ≤ 1099511627776) :
    Calls Try.prog 27 #[bAddr w.heap.size, .string s] wr fun e w' => e = .returned (.tuple #[.int .i64 s.size, .nilIface]) ∧ BldO w w' (o ++ s) ∧ Below w.heap.size wr w' ∧ Lib.OthersKept byT (some w.heap.size) wr w' := by
  rw [ByteArray.size_append] at hs
  refine (bldWrite w.heap.size w.heap.size (Lib.strCells o) s wr h.1 (by rw [Lib.strCells_length]; omega) h.2.size).mono ?_
  rintro e w' ⟨h1, h2, h3, h4⟩
  exact ⟨h1, ⟨by rw [strCells_append]; exact h2, h.2.trans h3⟩, h3, h4⟩
theorem BldO.string {w wr : World} {o : ByteArray} (h : BldO w wr o) :
    Calls Try.prog 28 #[bAddr w.heap.size] wr fun e w' => e = .returned (.string o) ∧ Below w.heap.size w w' := by
  refine (bldString w.heap.size w.heap.size o.data.toList wr h.1 h.2.size).mono ?_
  rintro e w' ⟨h1, h2⟩
  exact ⟨h1, h.2.trans h2⟩
/-! ### reading -/
def ItsAt (w : World) (a : Option Addr) (l : List A.It) : Prop := 0 < l.length → ∃ b off, a = some ⟨b, off, none⟩ ∧ b < w.heap.size ∧ ∀ q, q < l.length → w.cell? ⟨b, off + q * 2, none⟩ = some (.bool (A.tAt l q).1) ∧ w.cell? ⟨b, off + q * 2 + 1, none⟩ = some (.string (A.tAt l q).2)
def AlsAt (w : World) (a : Option Addr) (l : List (List A.It)) : Prop := 0 < l.length → ∃ b off, a = some ⟨b, off, none⟩ ∧ b < w.heap.size ∧ ∀ k, k < l.length → ∃ a2 c2, w.cell? ⟨b, off + k, none⟩ = some (.slice a2 (A.aAt l k).length c2) ∧ ItsAt w a2 (A.aAt l k)
def LnsAt (w : World) (a : Option Addr) (l : List A.Ln) : Prop := 0 < l.length → ∃ b off, a = some ⟨b, off, none⟩ ∧ b < w.heap.size ∧ ∀ i, i < l.length → w.cell? ⟨b, off + i * 2, none⟩ = some (.string (A.lAt l i).1) ∧ ∃ a1 c1, w.cell? ⟨b, off + i * 2 + 1, none⟩ = some (.slice a1 (A.lAt l i).2.length c1) ∧ AlsAt w a1 (A.lAt l i).2
section
open A
variable {w : World} {S : Nat → Prop}
theorem cell_at {cs : List C} {k : Nat} (h : k < cs.length) : cellAt cs k = cs[k] := by rw [cellAt, List.getD_eq_getElem?_getD, List.getElem?_eq_getElem h]; rfl
theorem its_read {a : Option Addr} {n cap : Nat} {l : List It} (hS : ∀ b, S b → b < w.heap.size) (h : CRep w S (.slice a n cap) (.sl l.length (itC l))) : n = l.length ∧ ItsAt w a l := by
  cases hl : l with
  | nil =>
    subst hl
    have hn : n = 0 := by cases h <;> rfl
    exact ⟨hn, fun q => absurd q (by simp)⟩
  | cons x r =>
    rw [← hl]
    have hp : 0 < l.length := by rw [hl]; simp
    have e : (itC l).length = l.length * 2 := itC_len l
    generalize hcs : itC l = cs at *
    generalize hm : l.length = m at *
    cases h with
    | sl0 => omega
    | sl vs hs hn hc hk =>
      rename_i b off
      refine ⟨rfl, fun _ => ⟨b, off, rfl, hS _ hs, fun q hq => ?_⟩⟩
      rw [hm] at hq
      obtain ⟨t1, t2⟩ := at_itC (a := l) (i := q) (by omega)
      rw [hcs, cell_at (by omega)] at t1 t2
      have k1 := hk (q * 2) (by omega)
      have k2 := hk (q * 2 + 1) (by omega)
      rw [t1] at k1; rw [t2] at k2
      rw [hc (q * 2) (by omega), show off + q * 2 + 1 = off + (q * 2 + 1) by omega, hc (q * 2 + 1) (by omega)]
      exact ⟨by rw [(crep_val k1).1], by rw [(crep_val k2).1]⟩
theorem sl_any {v : Value} {c : C} (hc : okK .sl c) (h : CRep w S v c) : ∃ a n cap, v = .slice a n cap ∧ CRep w S (.slice a n cap) (.sl (gn c) (gc c)) := by
  rcases hc with rfl | ⟨m, ds, rfl⟩
  · cases h; exact ⟨_, _, _, rfl, .sl0⟩
  · cases h with
    | sl0 => exact ⟨_, _, _, rfl, .sl0⟩
    | sl vs hs hn hc hk => exact ⟨_, _, _, rfl, .sl vs hs hn hc hk⟩
theorem als_read {a : Option Addr} {n cap : Nat} {l : List (List It)} {ds : List C} (hS : ∀ b, S b → b < w.heap.size) (hr : AlRep l ds) (h : CRep w S (.slice a n cap) (.sl l.length ds)) : n = l.length ∧ AlsAt w a l := by
  obtain ⟨e, hr⟩ := hr
  cases hl : l with
  | nil =>
    subst hl
    have : ds = [] := List.eq_nil_of_length_eq_zero e
    subst this
    have hn : n = 0 := by cases h <;> rfl
    exact ⟨hn, fun q => absurd q (by simp)⟩
  | cons x r =>
    rw [← hl]
    have hp : 0 < l.length := by rw [hl]; simp
    generalize hm : l.length = m at *
    cases h with
    | sl0 => omega
    | sl vs hs hn hc hk =>
      rename_i b off
      refine ⟨rfl, fun _ => ⟨b, off, rfl, hS _ hs, fun k hk2 => ?_⟩⟩
      rw [hm] at hk2
      obtain ⟨o1, o2, o3⟩ := hr k hk2
      have k1 := hk k (by omega)
      rw [← cell_at (by omega)] at k1
      obtain ⟨a2, n2, c2, e2, r2⟩ := sl_any o1 k1
      rw [o2, o3] at r2
      obtain ⟨rfl, g2⟩ := its_read hS r2
      exact ⟨a2, c2, by rw [hc k (by omega), e2], g2⟩
theorem lns_read {a : Option Addr} {n cap : Nat} {l : List Ln} {cs : List C} (hS : ∀ b, S b → b < w.heap.size) (hr : LnRep l cs) (h : CRep w S (.slice a n cap) (.sl l.length cs)) : n = l.length ∧ LnsAt w a l := by
  obtain ⟨e, hr⟩ := hr
  cases hl : l with
  | nil =>
    subst hl
    have : cs = [] := List.eq_nil_of_length_eq_zero (by simpa using e)
    subst this
    have hn : n = 0 := by cases h <;> rfl
    exact ⟨hn, fun q => absurd q (by simp)⟩
  | cons x r =>
    rw [← hl]
    have hp : 0 < l.length := by rw [hl]; simp
    generalize hm : l.length = m at *
    cases h with
    | sl0 => omega
    | sl vs hs hn hc hk =>
      rename_i b off
      refine ⟨rfl, fun _ => ⟨b, off, rfl, hS _ hs, fun i hi => ?_⟩⟩
      rw [hm] at hi
      obtain ⟨o0, o1, o2, o3⟩ := hr i hi
      have k0 := hk (i * 2) (by omega)
      have k1 := hk (i * 2 + 1) (by omega)
      rw [← cell_at (by omega)] at k0 k1
      rw [o0] at k0
      obtain ⟨a1, n1, c1, e1, r1⟩ := sl_any o1 k1
      rw [o2] at r1
      obtain ⟨rfl, g1⟩ := als_read hS o3 r1
      refine ⟨?_, a1, c1, ?_, g1⟩
      · rw [hc (i * 2) (by omega), (crep_val k0).1]
      · rw [show off + i * 2 + 1 = off + (i * 2 + 1) by omega, hc (i * 2 + 1) (by omega), e1]
end
end Go.Proofs.Ytgimfjmigoibgaa
/- Rules as text, by the program: the walk, by hand. -/
set_option linter.unusedSimpArgs false
set_option linter.unusedVariables false
set_option maxRecDepth 100000
set_option maxHeartbeats 4000000
namespace Go.Proofs.Ytgimfjmigoibgaa
open Go Go.RowKit Go.Proofs
open A (It Ln tAt aAt lAt itsT altsT linesT barT txtL itT spB sqB quB barB colB endB)
theorem linesT_len (L : List Ln) (o : ByteArray) : o.size ≤ (linesT L o).size := by rw [A.linesT_R, ByteArray.size_append]; omega
theorem altsT_len (l : List (List It)) (f : Bool) (o : ByteArray) : o.size ≤ (altsT f l o).size := by
  have := A.altsT_R l f o ByteArray.empty
  rw [A.ba_nil] at this
  rw [this, ByteArray.size_append]; omega
theorem itsT_len (a : List It) (o : ByteArray) : o.size ≤ (itsT a o).size := by
  have := A.itsT_R a o ByteArray.empty
  rw [A.ba_nil] at this
  rw [this, ByteArray.size_append]; omega
theorem BldO.lt {w wr : World} {o : ByteArray} (h : BldO w wr o) : w.heap.size < wr.heap.size := by
  rcases h.1 with h | h <;> exact h.lt
theorem BldO.kept {w wr w1 : World} {o : ByteArray} {cs : Array Value} {t : TypeId} (h : BldO w wr o) (ht : t ≠ byT) (k : Lib.OthersKept byT (some w.heap.size) (wr.alloc (.cells cs t)) w1) (j : Nat) : w1.cell? ⟨wr.heap.size, j, none⟩ = cs[j]? := by
  have h1 := k wr.heap.size _ (heap_alloc_new wr _) (fun e => by have := h.lt; have e2 := Option.some.inj e; omega) (fun c fz e => by cases e; exact ht rfl)
  rw [Lib.cell_of_heap h1]
theorem its_step {l : List It} {q : Nat} (h : q < l.length) (o : ByteArray) : itsT (l.drop q) o = itsT (l.drop (q + 1)) (o ++ itT (tAt l q)) := by
  rw [A.drop_tAt h]; rfl
theorem als_step {l : List (List It)} {m : Nat} (h : m < l.length) (f : Bool) (o : ByteArray) : altsT f (l.drop m) o = altsT true (l.drop (m + 1)) (itsT (aAt l m) (barT f o)) := by
  rw [A.drop_aAt h]; rfl
set_option maxHeartbeats 4000000 in
set_option maxRecDepth 100000 in
theorem text_any (L : List Ln) (la : Option Addr) (lc : Nat) (w : World) (hL : LnsAt w la L) (hn : L.length ≤ 1000000) (hA : ∀ x ∈ L, x.2.length ≤ 1000000 ∧ ∀ a ∈ x.2, a.length ≤ 1000000) (hsz : (txtL L).size ≤ 1099511627776) :
    Calls Try.prog 11 #[.slice la L.length lc] w fun e w' => e = .returned (.string (txtL L)) ∧ Below w.heap.size w w' := by
  have HL := Lib.hid hL
  have HA := Lib.hid hA
  have HZ := Lib.hid hsz
  clear hL hA hsz
  go_enter Try.func11, Try.ntmps11
  go_wp2_with fail
  go_loopw [12] (fun i wr => ∃ (k : Nat) (o : ByteArray), k ≤ L.length ∧ i = .int .i64 k ∧ BldO w wr o ∧ linesT (L.drop k) o = txtL L) (fun i _ => L.length - (intOf i).toNat)
  case atStart => exact ⟨0, ByteArray.empty, Nat.zero_le _, rfl, BldO.start w, rfl⟩
  case round =>
    obtain ⟨k, o, hk, rfl, hB, hI⟩ := hrel
    by_cases hkl : k < L.length
    · obtain ⟨lb, lo, rfl, hlb, hlc⟩ := HL.out (by omega)
      obtain ⟨c0, a1, n1, c1, hA1⟩ := hlc k hkl
      have d0 := (hB.2.cell (p := ⟨lb, lo + k * 2, none⟩) hlb).trans c0
      have d1 := (hB.2.cell (p := ⟨lb, lo + k * 2 + 1, none⟩) hlb).trans c1
      have hd : L.drop k = lAt L k :: L.drop (k + 1) := A.drop_lAt hkl
      have hAm := HA.out _ (A.lAt_mem hkl)
      rw [hd] at hI
      generalize lAt L k = X at *
      obtain ⟨nm, As⟩ := X
      dsimp only at c0 c1 hA1 d0 d1 hI hAm
      have hI2 : linesT (L.drop (k + 1)) (altsT false As (o ++ nm ++ colB) ++ endB) = txtL L := hI
      have hz1 : (o ++ nm ++ colB).size ≤ 1099511627776 := by
        have h1 := linesT_len (L.drop (k + 1)) (altsT false As (o ++ nm ++ colB) ++ endB)
        rw [hI2, ByteArray.size_append] at h1
        have h2 := altsT_len As false (o ++ nm ++ colB)
        have := HZ.out
        omega
      have hz2 : (nm ++ colB).size ≤ 1099511627776 := by rw [ByteArray.append_assoc, ByteArray.size_append] at hz1; omega
      have hz3 : nm.size + 2 ≤ 1099511627776 := by rw [ByteArray.size_append] at hz2; exact hz2
      have HI := Lib.hid hI2
      have HLC := Lib.hid hlc
      have HAM := Lib.hid hAm
      have HA1 := Lib.hid hA1
      have HB := Lib.hid hB
      clear hlc hI hI2 hd hAm hA1 c0 c1 hB
      have hz4 : (altsT false As (o ++ nm ++ colB) ++ endB).size ≤ 1099511627776 := by
        have h1 := linesT_len (L.drop (k + 1)) (altsT false As (o ++ nm ++ colB) ++ endB)
        rw [HI.out] at h1
        have := HZ.out
        omega
      have HZ4 := Lib.hid hz4
      clear hz4
      go_wp2_with (go_at_call 27; refine ((HB.out.alloc _).write (nm ++ colB) (by rw [← ByteArray.append_assoc]; exact hz1)).mono ?_)
      rintro e w1 ⟨rfl, hB1, hb1, ho1⟩
      have e5 : w1.cell? ⟨wr.heap.size, 1, none⟩ = some (.slice a1 As.length n1) := HB.out.kept (by decide) ho1 1
      rw [← ByteArray.append_assoc] at hB1
      have HB1 := Lib.hid hB1
      clear hB1 hb1 ho1 d0 d1
      generalize hT1 : altsT false As (o ++ nm ++ colB) = T1 at *
      generalize o ++ nm ++ colB = o1 at *
      have HT1 := Lib.hid hT1
      clear hT1
      go_wp2_with fail
      go_loopw [23] (fun i wr => ∃ (m : Nat) (o : ByteArray), m ≤ As.length ∧ i = .int .i64 m ∧ BldO w wr o ∧ altsT (decide (0 < m)) (As.drop m) o = T1) (fun i _ => As.length - (intOf i).toNat)
      case atStart => exact ⟨0, o1, Nat.zero_le _, rfl, HB1.out, HT1.out⟩
      case round =>
        obtain ⟨m, o2, hm, rfl, hB2, hI2⟩ := hrel
        by_cases hml : m < As.length
        · obtain ⟨ab, ao, rfl, hab, hac⟩ := HA1.out (by omega)
          obtain ⟨a2, c2, c3, hA2⟩ := hac m hml
          have d3 := (hB2.2.cell (p := ⟨ab, ao + m, none⟩) hab).trans c3
          have hAm2 := HAM.out.2 _ (A.aAt_mem hml)
          rw [als_step hml] at hI2
          have hz5 : (itsT (aAt As m) (barT (decide (0 < m)) o2)).size ≤ 1099511627776 := by
            have h1 := altsT_len (As.drop (m + 1)) true (itsT (aAt As m) (barT (decide (0 < m)) o2))
            have h2 := HZ4.out
            rw [hI2] at h1
            rw [ByteArray.size_append] at h2
            omega
          generalize aAt As m = It0 at *
          have HI2 := Lib.hid hI2
          have HB2 := Lib.hid hB2
          have HA2 := Lib.hid hA2
          have HZ5 := Lib.hid hz5
          have HAC := Lib.hid hac
          clear hI2 hB2 hA2 hz5 hac c3 e5
          by_cases hm0 : 0 < m
          · have hmi : (0 : Int) < (m : Int) := by omega
            have BARE : barT (decide (0 < m)) o2 = o2 ++ barB := by rw [decide_eq_true hm0]; rfl
            have hz6 : (o2 ++ barB).size ≤ 1099511627776 := by
              have h1 := itsT_len It0 (barT (decide (0 < m)) o2)
              have := HZ5.out
              rw [← BARE]; omega
            go_wp2_with (go_at_call 27; refine (HB2.out.write barB hz6).mono ?_)
            rintro e w2 ⟨rfl, hB3, hb3, -⟩
            have HB3 := Lib.hid hB3
            clear hB3 hb3 d3
            have hz7 := HZ5.out
            generalize hT2 : itsT It0 (barT (decide (0 < m)) o2) = T2 at *
            have HT2 := Lib.hid (by rw [← BARE]; exact hT2 : itsT It0 (o2 ++ barB) = T2)
            clear hT2
            go_wp2_with fail
            go_loopw [33] (fun i wr => ∃ (q : Nat) (o : ByteArray), q ≤ It0.length ∧ i = .int .i64 q ∧ BldO w wr o ∧ itsT (It0.drop q) o = T2) (fun i _ => It0.length - (intOf i).toNat)
            case atStart => exact ⟨0, (o2 ++ barB), Nat.zero_le _, rfl, HB3.out, HT2.out⟩
            case round =>
              obtain ⟨q, o4, hq, rfl, hB4, hI4⟩ := hrel
              by_cases hql : q < It0.length
              · obtain ⟨ib, io, rfl, hib, hic⟩ := HA2.out (by omega)
                obtain ⟨c4, c5⟩ := hic q hql
                have d4 := (hB4.2.cell (p := ⟨ib, io + q * 2, none⟩) hib).trans c4
                have d5 := (hB4.2.cell (p := ⟨ib, io + q * 2 + 1, none⟩) hib).trans c5
                rw [its_step hql] at hI4
                have hz8 : (o4 ++ itT (tAt It0 q)).size ≤ 1099511627776 := by
                  have h1 := itsT_len (It0.drop (q + 1)) (o4 ++ itT (tAt It0 q))
                  rw [hI4] at h1
                  omega
                generalize tAt It0 q = Y at *
                obtain ⟨bb, s⟩ := Y
                dsimp only at d4 d5 c4 c5
                have HI4 := Lib.hid hI4
                have HB4 := Lib.hid hB4
                have HIC := Lib.hid hic
                have HZ8 := Lib.hid hz8
                clear hI4 hB4 hic c4 c5
                cases bb with
                | true =>
                  have hz9 : s.size + 3 ≤ 1099511627776 := by
                    have h1 : (itT (true, s)).size = s.size + 3 := by
                      show (sqB ++ s ++ quB).size = _
                      rw [ByteArray.size_append, ByteArray.size_append]
                      show 2 + s.size + 1 = _
                      omega
                    rw [ByteArray.size_append, h1] at hz8; omega
                  clear hz8
                  have hz10 : (sqB ++ s).size + 1 ≤ 1099511627776 := by rw [ByteArray.size_append]; show 2 + s.size + 1 ≤ _; omega
                  go_wp2_with (go_at_call 27; refine ((HB4.out.alloc _).write (sqB ++ s ++ quB) HZ8.out).mono ?_)
                  rintro e w3 ⟨rfl, hB5, hb5, -⟩
                  have HB5 := Lib.hid hB5
                  clear hB5 hb5
                  go_wp2_with fail
                  go_roundw
                  case rel => exact ⟨q + 1, _, by omega, by go_num, HB5.out, HI4.out⟩
                  case measure => simp [intOf]; omega
                | false =>
                  have hz9 : s.size + 1 ≤ 1099511627776 := by
                    have h1 : (itT (false, s)).size = s.size + 1 := by
                      show (spB ++ s).size = _
                      rw [ByteArray.size_append]
                      show 1 + s.size = _
                      omega
                    rw [ByteArray.size_append, h1] at hz8; omega
                  clear hz8
                  go_wp2_with (go_at_call 27; refine ((HB4.out.alloc _).write (spB ++ s) HZ8.out).mono ?_)
                  rintro e w3 ⟨rfl, hB5, hb5, -⟩
                  have HB5 := Lib.hid hB5
                  clear hB5 hb5
                  go_wp2_with fail
                  go_roundw
                  case rel => exact ⟨q + 1, _, by omega, by go_num, HB5.out, HI4.out⟩
                  case measure => simp [intOf]; omega
              · have hAl := HAM.out.1
                have e4 : o4 = T2 := by rw [List.drop_eq_nil_of_le (by omega)] at hI4; exact hI4
                subst e4
                have HB4 := Lib.hid hB4
                clear hB4 hI4
                go_wp2_with fail
                go_roundw
                case rel => exact ⟨m + 1, _, by omega, by go_num, HB4.out, by rw [decide_eq_true (by omega : 0 < m + 1)]; exact HI2.out⟩
                case measure => simp [intOf]; omega
          · have hmi : ¬ (0 : Int) < (m : Int) := by omega
            have BARE : barT (decide (0 < m)) o2 = o2 := by rw [decide_eq_false hm0]; rfl
            have HB3 := HB2
            have hz7 := HZ5.out
            generalize hT2 : itsT It0 (barT (decide (0 < m)) o2) = T2 at *
            have HT2 := Lib.hid (by rw [BARE] at hT2; exact hT2 : itsT It0 o2 = T2)
            clear hT2
            go_wp2_with fail
            go_loopw [33] (fun i wr => ∃ (q : Nat) (o : ByteArray), q ≤ It0.length ∧ i = .int .i64 q ∧ BldO w wr o ∧ itsT (It0.drop q) o = T2) (fun i _ => It0.length - (intOf i).toNat)
            case atStart => exact ⟨0, o2, Nat.zero_le _, rfl, HB3.out, HT2.out⟩
            case round =>
              obtain ⟨q, o4, hq, rfl, hB4, hI4⟩ := hrel
              by_cases hql : q < It0.length
              · obtain ⟨ib, io, rfl, hib, hic⟩ := HA2.out (by omega)
                obtain ⟨c4, c5⟩ := hic q hql
                have d4 := (hB4.2.cell (p := ⟨ib, io + q * 2, none⟩) hib).trans c4
                have d5 := (hB4.2.cell (p := ⟨ib, io + q * 2 + 1, none⟩) hib).trans c5
                rw [its_step hql] at hI4
                have hz8 : (o4 ++ itT (tAt It0 q)).size ≤ 1099511627776 := by
                  have h1 := itsT_len (It0.drop (q + 1)) (o4 ++ itT (tAt It0 q))
                  rw [hI4] at h1
                  omega
                generalize tAt It0 q = Y at *
                obtain ⟨bb, s⟩ := Y
                dsimp only at d4 d5 c4 c5
                have HI4 := Lib.hid hI4
                have HB4 := Lib.hid hB4
                have HIC := Lib.hid hic
                have HZ8 := Lib.hid hz8
                clear hI4 hB4 hic c4 c5
                cases bb with
                | true =>
                  have hz9 : s.size + 3 ≤ 1099511627776 := by
                    have h1 : (itT (true, s)).size = s.size + 3 := by
                      show (sqB ++ s ++ quB).size = _
                      rw [ByteArray.size_append, ByteArray.size_append]
                      show 2 + s.size + 1 = _
                      omega
                    rw [ByteArray.size_append, h1] at hz8; omega
                  clear hz8
                  have hz10 : (sqB ++ s).size + 1 ≤ 1099511627776 := by rw [ByteArray.size_append]; show 2 + s.size + 1 ≤ _; omega
                  go_wp2_with (go_at_call 27; refine ((HB4.out.alloc _).write (sqB ++ s ++ quB) HZ8.out).mono ?_)
                  rintro e w3 ⟨rfl, hB5, hb5, -⟩
                  have HB5 := Lib.hid hB5
                  clear hB5 hb5
                  go_wp2_with fail
                  go_roundw
                  case rel => exact ⟨q + 1, _, by omega, by go_num, HB5.out, HI4.out⟩
                  case measure => simp [intOf]; omega
                | false =>
                  have hz9 : s.size + 1 ≤ 1099511627776 := by
                    have h1 : (itT (false, s)).size = s.size + 1 := by
                      show (spB ++ s).size = _
                      rw [ByteArray.size_append]
                      show 1 + s.size = _
                      omega
                    rw [ByteArray.size_append, h1] at hz8; omega
                  clear hz8
                  go_wp2_with (go_at_call 27; refine ((HB4.out.alloc _).write (spB ++ s) HZ8.out).mono ?_)
                  rintro e w3 ⟨rfl, hB5, hb5, -⟩
                  have HB5 := Lib.hid hB5
                  clear hB5 hb5
                  go_wp2_with fail
                  go_roundw
                  case rel => exact ⟨q + 1, _, by omega, by go_num, HB5.out, HI4.out⟩
                  case measure => simp [intOf]; omega
              · have hAl := HAM.out.1
                have e4 : o4 = T2 := by rw [List.drop_eq_nil_of_le (by omega)] at hI4; exact hI4
                subst e4
                have HB4 := Lib.hid hB4
                clear hB4 hI4
                go_wp2_with fail
                go_roundw
                case rel => exact ⟨m + 1, _, by omega, by go_num, HB4.out, by rw [decide_eq_true (by omega : 0 < m + 1)]; exact HI2.out⟩
                case measure => simp [intOf]; omega
        · have e4 : o2 = T1 := by rw [List.drop_eq_nil_of_le (by omega)] at hI2; exact hI2
          subst e4
          have HB2 := Lib.hid hB2
          clear hB2 hI2 e5
          go_wp2_with (go_at_call 27; refine (HB2.out.write endB HZ4.out).mono ?_)
          rintro e w2 ⟨rfl, hB3, hb3, -⟩
          have HB3 := Lib.hid hB3
          clear hB3 hb3
          go_wp2_with fail
          go_roundw
          case rel => exact ⟨k + 1, _, by omega, by go_num, HB3.out, HI.out⟩
          case measure => simp [intOf]; omega
    · have e4 : o = txtL L := by rw [List.drop_eq_nil_of_le (by omega)] at hI; exact hI
      have HB := Lib.hid hB
      clear hB hI
      go_wp2_with (go_at_call 28; refine HB.out.string.mono ?_)
      rintro e w1 ⟨rfl, hb1⟩
      go_wp2_with fail
      go_ret
      exact ⟨rfl, hb1⟩
end Go.Proofs.Ytgimfjmigoibgaa
/- Rules as text, by the program: the contract. -/
set_option linter.unusedSimpArgs false
set_option linter.unusedVariables false
set_option maxRecDepth 100000
set_option maxHeartbeats 4000000
namespace Go.Proofs.Ytgimfjmigoibgaa.A
open Go Go.RowKit
variable {P : Program} {T : TT}
theorem pc_plain {f : FuncId} {args : List Arg} {u : Value} (hp : plain u = true) (hr : ∀ a ∈ args, a.asRoot = .none)
    (h : ∀ (w : World) (S : Nat → Prop) (bx : Nat → Nat) (vs : List Value), (∀ b, S b → b < w.heap.size) → vs.length = reals args → (∀ i (h : i < args.length) (h2 : i < vs.length), ArgRep w S bx (bx i) vs[i] args[i]) →
      Calls P f vs.toArray w fun e w' => e = .returned u ∧ Below w.heap.size w w') : PC P T f args (ret1 (.st (.val u))) [] := by
  intro w S bx ph vs hh hl ha
  refine (h w S bx vs hh.low.1 hl ha).mono ?_
  rintro e w' ⟨rfl, hb⟩
  have hno : ∀ t κ b, ¬ owns [Root.loose [RC.st (.val u)]] (fun n => match n with | 0 => 0 | i + 1 => bx i) (fun _ _ => Pv.of u) t κ b := by
    intro t κ b ho
    cases t with
    | zero =>
      cases κ with
      | none => exact ho
      | some o =>
        cases o with
        | zero => exact ho
        | succ o => exact ho
    | succ t => exact owns_none _ _ _ (by simp [List.getD_eq_getElem?_getD]) _ _ ho
  refine ⟨u, S, (fun n => match n with | 0 => 0 | i + 1 => bx i), (fun _ _ => Pv.of u), rfl, ?_⟩
  constructor
  · refine ⟨fun t => ?_, fun t κ t' κ' b h => absurd h (hno t κ b), fun t κ b h => absurd h (hno t κ b), ⟨fun b hb2 => Nat.lt_of_lt_of_le (hh.low.1 b hb2) hb.size, hh.low.2.frame (fun b hb2 => hb.block b (hh.low.1 b hb2)) fun _ h => h⟩⟩
    cases t with
    | zero =>
      intro o ho
      obtain rfl : o = 0 := by have : o < 1 := ho; omega
      exact .val hp
    | succ t =>
      show RootRep T w' S _ _ (([Root.loose [RC.st (.val u)]] : List Root).getD (t + 1) .none)
      rw [show ([Root.loose [RC.st (.val u)]] : List Root).getD (t + 1) .none = .none by simp [List.getD_eq_getElem?_getD]]
      trivial
  · exact ⟨⟨rfl, rfl⟩, trivial⟩
  · exact fun _ => rfl
  · exact fun _ h => h
  · exact fun b h => .inl h
  · exact fun t κ b h => absurd h (hno t κ b)
  · exact Chg.of_below hb _
end Go.Proofs.Ytgimfjmigoibgaa.A
namespace Go.Proofs.Ytgimfjmigoibgaa.A
open Go Go.RowKit
theorem pc_Text (L : List Ln) (cs : List C) (hr : LnRep L cs) (hs : rSz L 1000000) (hz : (txtL L).size ≤ 1099511627776) : PC Try.prog T 11 [.v false [.sl L.length cs]] (ret1 (.st (vS (txtL L)))) [] :=
  pc_plain (u := .string (txtL L)) rfl (fun a ha => by obtain rfl := List.mem_singleton.1 ha; rfl) fun w S bx vs hS hl ha => by
    have hl1 : vs.length = 1 := hl
    match vs, hl1 with
    | [v], _ =>
      obtain ⟨c, hc, hv⟩ := ha 0 (by simp) (by simp)
      obtain rfl : C.sl L.length cs = c := by simpa using hc
      obtain ⟨a, n, cap, e, hv2⟩ := sl_any (c := .sl L.length cs) (.inr ⟨_, _, rfl⟩) hv
      have e' : v = .slice a n cap := e
      subst e'
      obtain ⟨rfl, hL⟩ := lns_read hS hr hv2
      exact text_any L a cap w hL hs.1 (fun x hx => hs.2 x hx) hz
end Go.Proofs.Ytgimfjmigoibgaa.A
/- The laws of rules as text. -/
set_option linter.unusedSimpArgs false
set_option linter.unusedVariables false
set_option maxRecDepth 100000
set_option maxHeartbeats 4000000
namespace Go.Proofs.Ytgimfjmigoibgaa.A
open Go
/-! ### how long the text of what was read is -/
def itZ (x : It) : Nat := x.2.size + 3
def itsZ (a : List It) : Nat := (a.map itZ).sum
def alsZ (A : List (List It)) : Nat := (A.map fun a => itsZ a + 2).sum
def lnZ (x : Ln) : Nat := x.1.size + 5 + alsZ x.2
def lnsZ (L : List Ln) : Nat := (L.map lnZ).sum
theorem itT_z (x : It) : (itT x).size ≤ itZ x := by
  unfold itT itZ
  split
  · rw [ByteArray.size_append, ByteArray.size_append]; show 2 + x.2.size + 1 ≤ _; omega
  · rw [ByteArray.size_append]; show 1 + x.2.size ≤ _; omega
theorem itsT_z : ∀ (a : List It) (o : ByteArray), (itsT a o).size ≤ o.size + itsZ a := by
  intro a
  induction a with
  | nil => intro o; exact Nat.le_refl _
  | cons x a ih =>
    intro o
    have h1 := ih (o ++ itT x)
    have h2 := itT_z x
    rw [ByteArray.size_append] at h1
    unfold itsZ at h1 ⊢
    rw [List.map_cons, List.sum_cons]
    show (itsT a (o ++ itT x)).size ≤ _
    omega
theorem altsT_z : ∀ (A : List (List It)) (f : Bool) (o : ByteArray), (altsT f A o).size ≤ o.size + alsZ A := by
  intro A
  induction A with
  | nil => intro f o; exact Nat.le_refl _
  | cons a A ih =>
    intro f o
    have h1 := ih true (itsT a (barT f o))
    have h2 := itsT_z a (barT f o)
    have h3 : (barT f o).size ≤ o.size + 2 := by
      unfold barT; split
      · rw [ByteArray.size_append]; exact Nat.le_refl _
      · omega
    unfold alsZ at h1 ⊢
    rw [List.map_cons, List.sum_cons]
    show (altsT true A (itsT a (barT f o))).size ≤ _
    omega
theorem linesT_z : ∀ (L : List Ln) (o : ByteArray), (linesT L o).size ≤ o.size + lnsZ L := by
  intro L
  induction L with
  | nil => intro o; exact Nat.le_refl _
  | cons x L ih =>
    intro o
    have h1 := ih (altsT false x.2 (o ++ x.1 ++ colB) ++ endB)
    have h2 := altsT_z x.2 false (o ++ x.1 ++ colB)
    have h3 : (o ++ x.1 ++ colB).size = o.size + x.1.size + 2 := by rw [ByteArray.size_append, ByteArray.size_append]; rfl
    have h4 : (altsT false x.2 (o ++ x.1 ++ colB) ++ endB).size = (altsT false x.2 (o ++ x.1 ++ colB)).size + 3 := by rw [ByteArray.size_append]; rfl
    unfold lnsZ at h1 ⊢
    rw [List.map_cons, List.sum_cons]
    unfold lnZ
    show (linesT L (altsT false x.2 (o ++ x.1 ++ colB) ++ endB)).size ≤ _
    have : lnZ x = x.1.size + 5 + alsZ x.2 := rfl
    unfold lnZ at h1
    omega
theorem txt_z (L : List Ln) : (txtL L).size ≤ lnsZ L := by
  have := linesT_z L ByteArray.empty
  unfold txtL
  have h : ByteArray.empty.size = 0 := rfl
  omega
def tkZ (t : Tk) : Nat := t.2.1.size + 5
def tksZ (ts : List Tk) : Nat := (ts.map tkZ).sum
theorem lnsZ_snoc (L : List Ln) (x : Ln) : lnsZ (L ++ [x]) = lnsZ L + lnZ x := by unfold lnsZ; rw [List.map_append, List.sum_append]; simp
theorem alsZ_snoc (L : List (List It)) (x : List It) : alsZ (L ++ [x]) = alsZ L + (itsZ x + 2) := by unfold alsZ; rw [List.map_append, List.sum_append]; simp
theorem itsZ_snoc (L : List It) (x : It) : itsZ (L ++ [x]) = itsZ L + itZ x := by unfold itsZ; rw [List.map_append, List.sum_append]; simp
theorem rstep_z {st : RS} {t : Tk} (h : rOk st) : lnsZ (rstep st t).2.1 ≤ lnsZ st.1 + tkZ t := by
  obtain ⟨L, w, o⟩ := st
  have e0 : itsZ [] = 0 := rfl
  have e1 : alsZ [] = 0 := rfl
  rcases h with h | ⟨h, h1⟩ | ⟨h, h1, h2⟩
  · change w = 0 at h; subst h
    show lnsZ (L ++ [(t.2.1, [])]) ≤ _
    rw [lnsZ_snoc]
    show lnsZ L + (t.2.1.size + 5 + alsZ []) ≤ lnsZ L + (t.2.1.size + 5)
    omega
  · change w = 1 at h; subst h
    obtain ⟨L0, ⟨nm, A⟩, rfl⟩ := snoc_ex h1
    show lnsZ (addAlt (L0 ++ [(nm, A)])) ≤ _
    rw [addAlt_snoc, lnsZ_snoc]
    show lnsZ L0 + (nm.size + 5 + alsZ (A ++ [[]])) ≤ lnsZ (L0 ++ [(nm, A)]) + (t.2.1.size + 5)
    rw [lnsZ_snoc, alsZ_snoc]
    show lnsZ L0 + (nm.size + 5 + (alsZ A + (itsZ [] + 2))) ≤ lnsZ L0 + (nm.size + 5 + alsZ A) + (t.2.1.size + 5)
    omega
  · change w = 2 at h; subst h
    obtain ⟨L0, ⟨nm, A⟩, rfl⟩ := snoc_ex h1
    rw [lastL_snoc] at h2
    obtain ⟨A0, al, rfl⟩ := snoc_ex h2
    show lnsZ (if t.1 = 1 ∨ t.1 = 2 then addIt (L0 ++ [(nm, A0 ++ [al])]) (decide (t.1 = 2)) t.2.1 else if t.1 = 4 then addAlt (L0 ++ [(nm, A0 ++ [al])]) else L0 ++ [(nm, A0 ++ [al])]) ≤ _
    have e2 : lnsZ (L0 ++ [(nm, A0 ++ [al])]) = lnsZ L0 + (nm.size + 5 + (alsZ A0 + (itsZ al + 2))) := by
      rw [lnsZ_snoc]
      show lnsZ L0 + (nm.size + 5 + alsZ (A0 ++ [al])) = _
      rw [alsZ_snoc]
    split
    · rw [addIt_snoc, lnsZ_snoc]
      show lnsZ L0 + (nm.size + 5 + alsZ (A0 ++ [al ++ [(decide (t.1 = 2), t.2.1)]])) ≤ lnsZ (L0 ++ [(nm, A0 ++ [al])]) + (t.2.1.size + 5)
      rw [alsZ_snoc, itsZ_snoc, e2]
      show lnsZ L0 + (nm.size + 5 + (alsZ A0 + (itsZ al + (t.2.1.size + 3) + 2))) ≤ _
      omega
    · split
      · rw [addAlt_snoc, lnsZ_snoc]
        show lnsZ L0 + (nm.size + 5 + alsZ (A0 ++ [al] ++ [[]])) ≤ lnsZ (L0 ++ [(nm, A0 ++ [al])]) + (t.2.1.size + 5)
        rw [alsZ_snoc, alsZ_snoc, e2]
        show lnsZ L0 + (nm.size + 5 + (alsZ A0 + (itsZ al + 2) + (itsZ [] + 2))) ≤ _
        omega
      · show lnsZ (L0 ++ [(nm, A0 ++ [al])]) ≤ lnsZ (L0 ++ [(nm, A0 ++ [al])]) + _
        omega
theorem rGo_z (z : Int) : ∀ (ts : List Tk) (st : RS), rOk st → (∃ n, rSz st.1 n) → lnsZ (rGo z ts st).1 ≤ lnsZ st.1 + tksZ ts := by
  intro ts
  induction ts with
  | nil =>
    intro st _ _
    unfold rGo
    split
    · exact Nat.zero_le _
    · exact Nat.le_add_right _ _
  | cons t ts ih =>
    intro st hok ⟨n, hs⟩
    unfold rGo
    split
    · obtain ⟨k1, k2⟩ := rstep_ok (t := t) (L := st.1) (w := st.2.1) (o := st.2.2) hok hs
      have h1 := ih _ k1 ⟨_, k2⟩
      have h2 := rstep_z (t := t) hok
      unfold tksZ at h1 ⊢
      rw [List.map_cons, List.sum_cons]
      have e : (rstep (st.1, st.2.1, st.2.2) t).2.1 = (rstep st t).2.1 := rfl
      rw [e] at h1
      exact Nat.le_trans h1 (by omega)
    · exact Nat.zero_le _
theorem tokAt_z {s : ByteArray} {i : Nat} (hi : i < s.size) (h : (tokAt s i).2.2 = 0) : i + (tokAt s i).1.2.1.size ≤ (tokAt s i).2.1 := by
  unfold tokAt at *
  dsimp only at *
  by_cases h1 : bt s i = 58
  · rw [if_pos h1]; exact Nat.le_refl _
  rw [if_neg h1] at *
  by_cases h2 : bt s i = 124
  · rw [if_pos h2]; exact Nat.le_refl _
  rw [if_neg h2] at *
  by_cases h3 : bt s i = 59
  · rw [if_pos h3]; exact Nat.le_refl _
  rw [if_neg h3] at *
  by_cases h4 : isLetN (bt s i) = true
  · rw [if_pos h4] at *
    have g2 := span_le isMoreN s i (by omega)
    have g1 := span_ge isMoreN s i
    split at h
    · simp at h
    · rename_i h5; rw [if_neg h5]
      show i + (s.extract i (span isMoreN s i)).size ≤ span isMoreN s i
      rw [size_cut s i _ g2]; omega
  rw [if_neg h4] at *
  by_cases h5 : bt s i = 39
  · rw [if_pos h5] at *
    have g1 := span_ge isSpelN s (i + 1)
    have g2 := span_le isSpelN s (i + 1) (by omega)
    split at h
    · simp at h
    · rename_i h6
      split at h
      · simp at h
      · rename_i h7
        rw [if_neg h6, if_neg h7]
        show i + (s.extract (i + 1) (span isSpelN s (i + 1))).size ≤ span isSpelN s (i + 1) + 1
        rw [size_cut s (i + 1) _ g2]; omega
  rw [if_neg h5] at h
  simp at h
theorem lexGo_z (s : ByteArray) (i : Nat) (hi : i ≤ s.size) : tksZ (lexGo s i).1 ≤ 6 * (s.size - i) := by
  rw [lexGo]
  split
  · rename_i h
    split
    · rename_i he
      have h1 := tokAt_end h he
      have h2 := skip_ge s i
      have h3 := tokAt_z h he
      have ih := lexGo_z s (tokAt s (skip s i)).2.1 h1.2
      dsimp only
      split
      · unfold tksZ at ih ⊢
        rw [List.map_cons, List.sum_cons]
        have h4 : tkZ (tokAt s (skip s i)).1 = (tokAt s (skip s i)).1.2.1.size + 5 := rfl
        omega
      · omega
    · exact Nat.zero_le _
  · exact Nat.zero_le _
termination_by s.size - i
decreasing_by
  have h1 := tokAt_end ‹_› ‹_›
  have h2 := skip_ge s i
  omega
theorem txt_sz {s : ByteArray} (hs : s.size ≤ 2000) : (txtL (pAll s).1).size ≤ 12000 := by
  have h1 := txt_z (pAll s).1
  have h2 := lexGo_z s 0 (Nat.zero_le _)
  have h3 : lnsZ (pAll s).1 ≤ tksZ (lexGo s 0).1 := by
    unfold pAll
    split
    · exact Nat.zero_le _
    · have := rGo_z s.size (lexGo s 0).1 ([], 0, false) (.inl rfl) ⟨0, by simp [rSz]⟩
      have e : lnsZ (([], 0, false) : RS).1 = 0 := rfl
      omega
  omega
end Go.Proofs.Ytgimfjmigoibgaa.A
/- The law ParseBack. -/
set_option linter.unusedSimpArgs false
set_option linter.unusedVariables false
set_option maxRecDepth 100000
set_option maxHeartbeats 4000000
namespace Go.Proofs.Ytgimfjmigoibgaa.A
open Go
theorem awb2 : lexGo ⟨⟨[83, 32, 58, 32, 58]⟩⟩ 0 = ([(1, ⟨⟨[83]⟩⟩, 0), (3, ⟨⟨[58]⟩⟩, 2), (3, ⟨⟨[58]⟩⟩, 4)], 0, 0) := lx_lit (by decide +kernel)
theorem awb3 : lexGo ⟨⟨[83, 32, 58, 32, 39, 97, 39]⟩⟩ 0 = ([(1, ⟨⟨[83]⟩⟩, 0), (3, ⟨⟨[58]⟩⟩, 2), (2, ⟨⟨[97]⟩⟩, 4)], 0, 0) := lx_lit (by decide +kernel)
theorem pbw2 : pAll ⟨⟨[83, 32, 58, 32, 58]⟩⟩ = ([], 4, 14) := p_lit14 awb2 rfl
theorem pbw3 : pAll ⟨⟨[83, 32, 58, 32, 39, 97, 39]⟩⟩ = ([], 7, 14) := p_lit14 awb3 rfl
theorem c_pa13 {s : ByteArray} (hs : s.size ≤ 65536) : pc 13 [.v false [vS s]] (rAllP s) :=
  ⟨enters Try.func13 (by kernel_rfl) (by kernel_rfl), pc_parseAll s hs⟩
def bookTB (x_lnsOf : List C → List Ln) (x_pN : ByteArray → Nat) (x_pC : ByteArray → List C) (x_pA : ByteArray → Int) (x_pE : ByteArray → Int) (x_txtL : List Ln → ByteArray) : Book := fun f xs => match f, xs with
  | 13, [.v false [.val (.string s)]] => some (rets [(false, [.st (.sl (x_pN s) (x_pC s))]), (false, [.st (vI (x_pA s))]), (false, [.st (vI (x_pE s))])])
  | 11, [.v false [.sl _ cs]] => some (ret1 (.st (vS (x_txtL (x_lnsOf cs)))))
  | 12, [.v false [.sl _ cs]] => some (ret1 (.st (vS (x_txtL (x_lnsOf cs)))))
  | 10, [] => some (ret1 (.st (vB true)))
  | _, _ => none
theorem pc_awake13b : PC Try.prog T 10 [] (ret1 (.st (vB true))) [] := by
  refine pc_of tok Try.func10 rfl (by rfl) ?_
  obtain ⟨j, hj⟩ : ∃ j : J, j = std Try.prog T := ⟨_, rfl⟩
  have hm : Try.prog.follows .mixedOrders = true := by kernel_rfl
  obtain ⟨a1, a2, a3, a4⟩ := p_of14 paw14
  obtain ⟨b1, b2, b3, b4⟩ := p_of14 pbw2
  obtain ⟨c1, c2, c3, c4⟩ := p_of14 pbw3
  have z1 : gn (cellAt (pC ⟨⟨[83, 32, 58, 32, 39, 97, 39, 32, 83, 32, 124, 32, 59]⟩⟩) (Int.toNat 0 * 2 + 1)) = 2 := by rw [a2]; rfl
  have z2 : gn (cellAt (gc (cellAt (pC ⟨⟨[83, 32, 58, 32, 39, 97, 39, 32, 83, 32, 124, 32, 59]⟩⟩) (Int.toNat 0 * 2 + 1))) (Int.toNat 0)) = 2 := by rw [a2]; rfl
  have z3 : gn (cellAt (gc (cellAt (pC ⟨⟨[83, 32, 58, 32, 39, 97, 39, 32, 83, 32, 124, 32, 59]⟩⟩) (Int.toNat 0 * 2 + 1))) (Int.toNat 1)) = 0 := by rw [a2]; rfl
  have a1' : pN ⟨⟨[83, 32, 58, 32, 39, 97, 39, 32, 83, 32, 124, 32, 59]⟩⟩ = 1 := a1
  generalize y_lnsOf : @lnsOf = x_lnsOf at *
  generalize y_pN : @pN = x_pN at *
  generalize y_pC : @pC = x_pC at *
  generalize y_pA : @pA = x_pA at *
  generalize y_pE : @pE = x_pE at *
  generalize y_txtL : @txtL = x_txtL at *
  (repeat' first | ((first | with_reducible refine tr_cut (fun h => ?_) (fun h => ?_) | refine aw_condj (by cbv) (fun h => ?_) (fun h => ?_)) <;> (try simp (disch := omega) only [hj, std, cmpI, cmpB, satB, Bool.not_eq_true, Bool.not_eq_false, decide_eq_true_eq, decide_eq_false_iff_not, beq_iff_eq, bne_iff_ne, bne_eq_false_iff_eq, beq_eq_false_iff_ne, ne_eq, reduceCtorEq, not_true_eq_false, not_false_eq_true, pl0, if_true, cmpS_eq, cmpS_neq, Bool.not_eq_eq_eq_not, Bool.not_true, Bool.not_false, Bool.not_eq_true', a1', a3, a4, b3, b4, c3, c4, z1, z2, z3, ite0, add64, sub64] at h) <;> (try (exfalso; omega))) | (with_reducible refine tr_alt (fun h => ?_) ?_ <;> (try (exfalso; omega))) | (with_reducible refine tr_ob ?_ ?_) | (with_reducible refine tr_done ?_) | (refine aw_tr hj tok (bookTB x_lnsOf x_pN x_pC x_pA x_pE x_txtL) (by cbv) ?_) | (refine aw_seq fun K hK => ?_) | (refine aw_tr1 hj tok (bookTB x_lnsOf x_pN x_pC x_pA x_pE x_txtL) (by cbv) ?_) | (refine aw_skip ?_) | (refine aw_block ?_) | (refine aw_exit ?_) | (refine aw_ret ⟨.inr rfl, ret_okj hj (by cbv) ?_ ?_⟩) | (refine aw_ret ?_) | (with_reducible refine th_n ?_) | (with_reducible refine th_r ?_) | (with_reducible refine th_x ?_) | (with_reducible refine blk_n ?_) | (with_reducible refine blk_r ?_) | (with_reducible refine blk_x ?_) | (with_reducible refine blk_y rfl ?_) | (refine ⟨.inr rfl, ret_okj hj (by cbv) ?_ ?_⟩) | (refine ⟨.inl rfl, ret_okj hj (by cbv) ?_ ?_⟩) | (with_reducible apply_assumption -symm -exfalso only [*]))
  all_goals ((try subst y_lnsOf); (try subst y_pN); (try subst y_pC); (try subst y_pA); (try subst y_pE); (try subst y_txtL))
  all_goals (try (repeat' first | with_reducible exact obl0 | with_reducible refine obl1 ?_ ?_))
  all_goals (try first | with_reducible exact True.intro | (refine ob_pc hj ?_; (try rw [hj]); first | exact c_pa13 (show _ ≤ 65536 by decide)) | (refine ob_pcn hj ?_; (try rw [hj]); first | exact c_pa13 (show _ ≤ 65536 by decide)) | ((first | refine ob_le hj ?_ | refine ob_lei hj ?_ | refine ob_inb hj ?_ | refine ob_pos hj ?_ | refine ob_ne0 hj ?_ | refine ob_eqb hj ?_); (first | rfl | first | omega | (simp only [hj, std]; split <;> omega) | (simp (disch := omega) only [hj, std, cmpI, cmpB, satB, add64, sub64, ite0, pl0, pl2, pl3, sb0, if_true, if_false, eq_self] <;> omega) | (simp (disch := omega) [hj, std, cmpI, cmpB, satB, add64, sub64, ite0, pl0, pl2, pl3, sb0, if_true, if_false, eq_self] <;> omega))) | ((rw [hj, a2]; exact (show _ ≤ _ by decide))) | ((rw [hj, a2]; first | exact .inr ⟨_, _, rfl⟩ | exact .inl rfl)) | ((refine r1b ?_; rw [hj, c4]; rfl)))
theorem c_awake13b : pc 10 [] (ret1 (.st (vB true))) := ⟨enters Try.func10 (by kernel_rfl) (by kernel_rfl), pc_awake13b⟩
theorem rGo_no (z : Int) : ∀ (ts : List Tk) (st : RS), (rGo z ts st).2.2 ≠ 0 → (rGo z ts st).1 = [] := by
  intro ts
  induction ts with
  | nil =>
    intro st h
    unfold rGo at h ⊢
    split
    · rfl
    · rename_i hc; rw [if_neg hc] at h; exact absurd rfl h
  | cons t ts ih =>
    intro st h
    unfold rGo at h ⊢
    split
    · rename_i hc; rw [if_pos hc] at h; exact ih _ h
    · rfl
theorem pE_no {s : ByteArray} (h : ¬ pE s = 0) : pN s = 0 := by
  unfold pE at h
  unfold pN pAll at *
  split
  · rfl
  · rename_i hc; rw [if_neg hc] at h; rw [rGo_no _ _ _ h]; rfl
theorem pC_read (s : ByteArray) : lnsOf (pC s) = (pAll s).1 := by unfold pC; exact (LnRep.of (pAll s).1).read
theorem back_txt {s : ByteArray} (h : pE s = 0) : pN (txtL (lnsOf (pC s))) = pN s ∧ pC (txtL (lnsOf (pC s))) = pC s ∧ pA (txtL (lnsOf (pC s))) = 0 ∧ pE (txtL (lnsOf (pC s))) = 0 ∧ (pAll (txtL (lnsOf (pC s)))).1 = (pAll s).1 := by
  obtain ⟨h1, h2⟩ := pAll_V h
  have e := read_txt (L := (pAll s).1) (fun x hx => (h2 x hx).1) (fun x hx => (h2 x hx).2) h1
  rw [pC_read]
  refine ⟨?_, ?_, ?_, ?_, by rw [e]⟩
  · unfold pN; rw [e]
  · unfold pC; rw [e]
  · unfold pA; rw [e]
  · unfold pE; rw [e]
theorem c_Txt {s : ByteArray} (hs : s.size ≤ 65536) (hz : (txtL (pAll s).1).size ≤ 12000) : pc 11 [.v false [.sl (pN s) (pC s)]] (ret1 (.st (vS (txtL (lnsOf (pC s)))))) := by
  rw [pC_read]
  exact ⟨enters Try.func11 (by kernel_rfl) (by kernel_rfl), pc_Text (pAll s).1 _ (LnRep.of _) (rSz_mono (pAll_sz s) (by omega)) (by omega)⟩
theorem c_txt13 {s : ByteArray} (hs : s.size ≤ 65536) (hz : (txtL (pAll s).1).size ≤ 12000) : pc 12 [.v false [.sl (pN s) (pC s)]] (ret1 (.st (vS (txtL (lnsOf (pC s)))))) := by
  rw [pC_read]
  exact ⟨enters Try.func12 (by kernel_rfl) (by kernel_rfl), pc_text13 (pAll s).1 _ (LnRep.of _) (rSz_mono (pAll_sz s) (by omega)) (by omega)⟩
theorem pc_ParseBackL (s : ByteArray) : PC Try.prog T 4 [.v false [vS s]] (ret1 (.st (vB true))) [] := by
  refine pc_of tok Try.func4 rfl (by rfl) ?_
  have hz := @txt_sz s
  have hb := @back_txt s
  have hno := @pE_no s
  have hrd := pC_read s
  generalize ht : txtL (lnsOf (pC s)) = t at *
  obtain ⟨j, hj⟩ : ∃ j : J, j = std Try.prog T := ⟨_, rfl⟩
  have hm : Try.prog.follows .mixedOrders = true := by kernel_rfl
  generalize y_lnsOf : @lnsOf = x_lnsOf at *
  generalize y_pN : @pN = x_pN at *
  generalize y_pC : @pC = x_pC at *
  generalize y_pA : @pA = x_pA at *
  generalize y_pE : @pE = x_pE at *
  generalize y_txtL : @txtL = x_txtL at *
  (repeat' first | ((first | with_reducible refine tr_cut (fun h => ?_) (fun h => ?_) | refine aw_condj (by cbv) (fun h => ?_) (fun h => ?_)) <;> (try simp (disch := omega) only [hj, std, cmpI, cmpB, satB, Bool.not_eq_true, Bool.not_eq_false, decide_eq_true_eq, decide_eq_false_iff_not, beq_iff_eq, bne_iff_ne, bne_eq_false_iff_eq, beq_eq_false_iff_ne, ne_eq, reduceCtorEq, not_true_eq_false, not_false_eq_true, pl0, if_true, cmpS_eq, cmpS_neq, Bool.not_eq_eq_eq_not, Bool.not_true, Bool.not_false, Bool.not_eq_true', ht, add64, sub64] at h) <;> (try (exfalso; omega))) | (with_reducible refine tr_alt (fun h => ?_) ?_ <;> (try (exfalso; omega))) | (with_reducible refine tr_ob ?_ ?_) | (with_reducible refine tr_done ?_) | (refine aw_tr hj tok (bookTB x_lnsOf x_pN x_pC x_pA x_pE x_txtL) (by cbv) ?_) | (refine aw_seq fun K hK => ?_) | (refine aw_tr1 hj tok (bookTB x_lnsOf x_pN x_pC x_pA x_pE x_txtL) (by cbv) ?_) | (refine aw_skip ?_) | (refine aw_block ?_) | (refine aw_exit ?_) | (refine aw_ret ⟨.inr rfl, ret_okj hj (by cbv) ?_ ?_⟩) | (refine aw_ret ?_) | (with_reducible refine th_n ?_) | (with_reducible refine th_r ?_) | (with_reducible refine th_x ?_) | (with_reducible refine blk_n ?_) | (with_reducible refine blk_r ?_) | (with_reducible refine blk_x ?_) | (with_reducible refine blk_y rfl ?_) | (refine ⟨.inr rfl, ret_okj hj (by cbv) ?_ ?_⟩) | (refine ⟨.inl rfl, ret_okj hj (by cbv) ?_ ?_⟩) | (with_reducible apply_assumption -symm -exfalso only [*]))
  all_goals ((try subst y_lnsOf); (try subst y_pN); (try subst y_pC); (try subst y_pA); (try subst y_pE); (try subst y_txtL))
  all_goals (try (have hs : s.size ≤ 2000 := (by omega)))
  all_goals (try (have he : pE s = 0 := (by omega); obtain ⟨z1, z2, z3, z4, z5⟩ := hb he))
  all_goals (try (have g0 := hz hs))
  all_goals (try (have g1 : t.size ≤ 12000 := (by rw [← ht, hrd]; exact g0)))
  all_goals (try (have g2 : (txtL (pAll t).1).size ≤ 12000 := (by rw [z5]; exact g0)))
  all_goals (try (have g3 : (txtL (lnsOf (pC s))).size ≤ 12000 := (by rw [ht]; exact g1)))
  all_goals (try (have g4 : (txtL (pAll (txtL (lnsOf (pC s)))).1).size ≤ 12000 := (by rw [ht]; exact g2)))
  all_goals (try (repeat' first | with_reducible exact obl0 | with_reducible refine obl1 ?_ ?_))
  all_goals (try first | with_reducible exact True.intro | (refine ob_pc hj ?_; (try rw [hj]); first | exact c_awake13b | exact c_pa13 (show _ ≤ 65536 by omega) | exact c_Txt (show _ ≤ 65536 by omega) g0 | exact c_txt13 (show _ ≤ 65536 by omega) g0 | exact c_pa13 (s := txtL (lnsOf (pC s))) (by omega) | exact c_Txt (s := txtL (lnsOf (pC s))) (by omega) g4 | exact c_txt13 (s := txtL (lnsOf (pC s))) (by omega) g4) | (refine ob_pcn hj ?_; (try rw [hj]); first | exact c_awake13b | exact c_pa13 (show _ ≤ 65536 by omega) | exact c_Txt (show _ ≤ 65536 by omega) g0 | exact c_txt13 (show _ ≤ 65536 by omega) g0 | exact c_pa13 (s := txtL (lnsOf (pC s))) (by omega) | exact c_Txt (s := txtL (lnsOf (pC s))) (by omega) g4 | exact c_txt13 (s := txtL (lnsOf (pC s))) (by omega) g4) | ((first | refine ob_le hj ?_ | refine ob_lei hj ?_ | refine ob_inb hj ?_ | refine ob_pos hj ?_ | refine ob_ne0 hj ?_ | refine ob_eqb hj ?_); (first | rfl | first | omega | (simp only [hj, std]; split <;> omega) | (simp (disch := omega) only [hj, std, cmpI, cmpB, satB, add64, sub64, ite0, pl0, pl2, pl3, sb0, if_true, if_false, eq_self] <;> omega) | (simp (disch := omega) [hj, std, cmpI, cmpB, satB, add64, sub64, ite0, pl0, pl2, pl3, sb0, if_true, if_false, eq_self] <;> omega))) | (exact rfl) | ((exfalso; have k := hno (by assumption); omega)) | ((exfalso; omega)) | ((exfalso; exact (‹¬ txtL (lnsOf (pC t)) = t›) (by rw [z2, ht]))))
end Go.Proofs.Ytgimfjmigoibgaa.A
/- ParseBack: the walk, as the row's step asks for it. -/
set_option linter.unusedSimpArgs false
set_option linter.unusedVariables false
set_option maxRecDepth 100000
set_option maxHeartbeats 4000000
namespace Go.Proofs.Ytgimfjmigoibgaa
open Go Go.RowKit
theorem parseBack_walk (w : World) (s : ByteArray) (_ : s.size ≤ 140737488351232) : Calls Try.prog 4 #[.string s] w fun e w' => e = .returned (.bool true) ∧ Below w.heap.size w w' :=
  A.walk_of_pc (vs := [.string s]) (A.pc_ParseBackL s) (by simp [A.Arg.asRoot]) (fun _ => False) (fun _ h => h.elim) rfl (fun i h h2 => by
    have h3 : i < 1 := h
    obtain rfl : i = 0 := by omega
    exact ⟨_, rfl, .val rfl⟩)
end Go.Proofs.Ytgimfjmigoibgaa
