import Derived.Test.YtdmdcmhgfgookaaLi2
import Derived.Test.YtdmdcmhgfgookaaTt
import Derived.Test.YtdmdcmhgfgookaaAm32
import Derived.Test.YtdmdcmhgfgookaaBas
import Derived.Test.YtdmdcmhgfgookaaAm29
import Derived.Test.YtdmdcmhgfgookaaAmQ
/- Grammars as cells. -/
set_option linter.unusedSimpArgs false
set_option linter.unusedVariables false
set_option maxRecDepth 100000
set_option maxHeartbeats 4000000
namespace Go.Proofs.Ytdmdcmhgfgookaa.A
open Go
/-- a rule: its left side, its right side -/
abbrev Rl := Int × List Int
def rC (l : List Rl) : List C := l.flatMap fun r => [vI r.1, (C.sl (nI r.2) (iC r.2))]
def nR (l : List Rl) : Nat := l.foldr (fun _ n => n + 1) 0
theorem nR_eq (l : List Rl) : nR l = l.length := by unfold nR; induction l with | nil => rfl | cons x l ih => rw [List.foldr_cons, ih]; rfl
abbrev rAt (l : List Rl) (k : Nat) : Rl := l.getD k (0, [])
theorem rC_cons (r : Rl) (l : List Rl) : rC (r :: l) = vI r.1 :: (C.sl (nI r.2) (iC r.2)) :: rC l := rfl
theorem rC_len (l : List Rl) : (rC l).length = nR l * 2 := by
  rw [nR_eq]
  induction l with
  | nil => rfl
  | cons r l ih => rw [rC_cons, List.length_cons, List.length_cons, ih, List.length_cons]; omega
theorem rC_at : ∀ (l : List Rl) (k : Nat), k < l.length → cellAt (rC l) (k * 2) = vI (rAt l k).1 ∧ cellAt (rC l) (k * 2 + 1) = (C.sl (nI ((rAt l k).2)) (iC ((rAt l k).2))) := by
  intro l
  induction l with
  | nil => intro k h; exact absurd h (by simp)
  | cons r l ih =>
    intro k h
    cases k with
    | zero => exact ⟨rfl, rfl⟩
    | succ k =>
      have := ih k (by simpa using h)
      rw [show (k + 1) * 2 = k * 2 + 1 + 1 by omega, rC_cons]
      exact this
theorem rC_out {l : List Rl} {k : Nat} (h : ¬ k < l.length) : cellAt (rC l) (k * 2) = .nil ∧ cellAt (rC l) (k * 2 + 1) = .nil := by
  have hl := rC_len l
  have hn := nR_eq l
  unfold cellAt
  rw [List.getD_eq_getElem?_getD, List.getD_eq_getElem?_getD, List.getElem?_eq_none (by omega), List.getElem?_eq_none (by omega)]
  exact ⟨rfl, rfl⟩
theorem rAt_out {l : List Rl} {k : Nat} (h : ¬ k < l.length) : rAt l k = (0, []) := by
  rw [rAt, List.getD_eq_getElem?_getD, List.getElem?_eq_none (by omega)]; rfl
theorem gi_rC (l : List Rl) (k : Nat) : gi (cellAt (rC l) (k * 2)) = (rAt l k).1 := by
  by_cases h : k < l.length
  · rw [(rC_at l k h).1]; rfl
  · rw [(rC_out h).1, rAt_out h]; rfl
theorem gn_rC (l : List Rl) (k : Nat) : gn (cellAt (rC l) (k * 2 + 1)) = nI (rAt l k).2 := by
  by_cases h : k < l.length
  · rw [(rC_at l k h).2]; rfl
  · rw [(rC_out h).2, rAt_out h]; rfl
theorem gc_rC (l : List Rl) (k : Nat) : gc (cellAt (rC l) (k * 2 + 1)) = iC (rAt l k).2 := by
  by_cases h : k < l.length
  · rw [(rC_at l k h).2]; rfl
  · rw [(rC_out h).2, rAt_out h]; rfl
theorem ok_rC0 {l : List Rl} {k : Nat} (h : k < l.length) : okK (.int .i64) (cellAt (rC l) (k * 2)) := by rw [(rC_at l k h).1]; exact ⟨_, rfl⟩
theorem ok_rC1 {l : List Rl} {k : Nat} (h : k < l.length) : okK .sl (cellAt (rC l) (k * 2 + 1)) := by rw [(rC_at l k h).2]; exact .inr ⟨_, _, rfl⟩
theorem rC_snoc (l : List Rl) (a : Int) (b : List Int) : rC l ++ [vI a, (C.sl (nI b) (iC b))] = rC (l ++ [(a, b)]) := by simp [rC]
theorem rC_take (l : List Rl) : ∀ k, extC (rC l) 0 (k * 2) = rC (l.take k) := by
  induction l with
  | nil => intro k; simp [rC, extC]
  | cons r l ih =>
    intro k
    cases k with
    | zero => simp [rC, extC]
    | succ k =>
      have := ih k
      rw [show (k + 1) * 2 = k * 2 + 1 + 1 by omega, rC_cons, List.take_succ_cons, rC_cons]
      unfold extC at this ⊢
      simp only [List.take_succ_cons, List.drop_zero] at this ⊢
      rw [this]
/-- back from cells -/
def intsOf (cs : List C) : List Int := cs.map gi
theorem intsOf_iC (l : List Int) : intsOf (iC l) = l := by unfold intsOf iC; rw [List.map_map]; exact List.map_id' l
def rlsGo : List C → List Rl
  | a :: b :: r => (gi a, intsOf (gc b)) :: rlsGo r
  | _ => []
def rlsOf (cs : List C) : List Rl := rlsGo cs
theorem rlsOf_rC (l : List Rl) : rlsOf (rC l) = l := by
  unfold rlsOf
  induction l with
  | nil => rfl
  | cons r l ih =>
    rw [rC_cons, rlsGo, ih]
    show (r.1, intsOf (iC r.2)) :: l = _
    rw [intsOf_iC]
end Go.Proofs.Ytdmdcmhgfgookaa.A

/- The ghost machine at this program: a contract with no roots; the empty book. -/
set_option linter.unusedSimpArgs false
set_option linter.unusedVariables false
set_option maxRecDepth 100000
set_option maxHeartbeats 4000000
namespace Go.Proofs.Ytdmdcmhgfgookaa.A
open Go
def pc (f : FuncId) (args : List Arg) (ret : RV) : Prop := (std Try.prog T).pc f args ret []
def book0 : Book := fun _ _ => none
end Go.Proofs.Ytdmdcmhgfgookaa.A

/- Lexing, the plain law: what both texts compute. No program in sight. -/
set_option linter.unusedSimpArgs false
set_option linter.unusedVariables false
set_option maxRecDepth 100000
set_option maxHeartbeats 4000000
namespace Go.Proofs.Ytdmdcmhgfgookaa
open Go

/-- the first place from i on where p fails -/
def span (p : Nat → Bool) (s : ByteArray) (i : Nat) : Nat :=
  if h : i < s.size ∧ p (bt s i) = true then span p s (i + 1) else i
termination_by s.size - i
theorem span_stop {p : Nat → Bool} {s : ByteArray} {i : Nat} (h : ¬ (i < s.size ∧ p (bt s i) = true)) : span p s i = i := by
  rw [span, dif_neg h]
theorem span_step {p : Nat → Bool} {s : ByteArray} {i : Nat} (h : i < s.size) (hp : p (bt s i) = true) : span p s i = span p s (i + 1) := by
  rw [span, dif_pos ⟨h, hp⟩]
theorem span_ge (p : Nat → Bool) (s : ByteArray) (i : Nat) : i ≤ span p s i := by
  rw [span]; split
  · rename_i h
    have := span_ge p s (i + 1); omega
  · exact Nat.le_refl _
termination_by s.size - i
theorem span_le (p : Nat → Bool) (s : ByteArray) (i : Nat) (h : i ≤ s.size) : span p s i ≤ s.size := by
  rw [span]; split
  · rename_i hh
    exact span_le p s (i + 1) (by omega)
  · exact h
termination_by s.size - i
theorem span_gt {p : Nat → Bool} {s : ByteArray} {i : Nat} (h : i < s.size) (hp : p (bt s i) = true) : i < span p s i := by
  rw [span_step h hp]; have := span_ge p s (i + 1); omega

def isLetN (c : Nat) : Bool := (decide (97 ≤ c) && decide (c ≤ 122)) || (decide (65 ≤ c) && decide (c ≤ 90))
def isMoreN (c : Nat) : Bool := isLetN c || (decide (48 ≤ c) && decide (c ≤ 57)) || decide (c = 95)
def isSpelN (c : Nat) : Bool := decide (32 ≤ c) && decide (c ≤ 126) && !decide (c = 39) && !decide (c = 92)
def isBlankN (c : Nat) : Bool := decide (c = 32) || decide (c = 9) || decide (c = 10) || decide (c = 13)
/-- behind separators and comments -/
def skip (s : ByteArray) (i : Nat) : Nat :=
  if h : i < s.size then
    if isBlankN (bt s i) = true then skip s (i + 1)
    else if hc : bt s i = 35 then
      have : i < span (fun c => !decide (c = 10)) s i := span_gt h (by simp [hc])
      have : span (fun c => !decide (c = 10)) s i ≤ s.size := span_le _ s i (by omega)
      skip s (span (fun c => !decide (c = 10)) s i)
    else i
  else i
termination_by s.size - i
theorem skip_ge (s : ByteArray) (i : Nat) : i ≤ skip s i := by
  rw [skip]; split
  · rename_i h
    split
    · have := skip_ge s (i + 1); omega
    · rename_i hb
      split
      · rename_i hc
        have h1 : i < span (fun c => !decide (c = 10)) s i := span_gt h (by simp [hc])
        have h2 : span (fun c => !decide (c = 10)) s i ≤ s.size := span_le _ s i (by omega)
        have := skip_ge s (span (fun c => !decide (c = 10)) s i)
        show i ≤ skip s (span (fun c => !decide (c = 10)) s i)
        omega
      · exact Nat.le_refl _
  · exact Nat.le_refl _
termination_by s.size - i
/-- kind, text, where -/
abbrev Tk := Int × ByteArray × Int
def tk0 : Tk := (0, ByteArray.empty, 0)
/-- the token at i: it, where it ends, what is wrong -/
def tokAt (s : ByteArray) (i : Nat) : Tk × Nat × Int :=
  let c := bt s i
  if c = 58 then ((3, ⟨#[58]⟩, i), i + 1, 0)
  else if c = 124 then ((4, ⟨#[124]⟩, i), i + 1, 0)
  else if c = 59 then ((5, ⟨#[59]⟩, i), i + 1, 0)
  else if isLetN c = true then
    let e := span isMoreN s i
    if 32 < e - i then (tk0, i, 19) else ((1, s.extract i e, i), e, 0)
  else if c = 39 then
    let e := span isSpelN s (i + 1)
    if s.size ≤ e ∨ bt s e ≠ 39 ∨ e = i + 1 then (tk0, i, 13)
    else if 32 < e - i - 1 then (tk0, i, 19) else ((2, s.extract (i + 1) e, i), e + 1, 0)
  else (tk0, i, 13)
theorem tokAt_end {s : ByteArray} {i : Nat} (hi : i < s.size) (h : (tokAt s i).2.2 = 0) : i < (tokAt s i).2.1 ∧ (tokAt s i).2.1 ≤ s.size := by
  unfold tokAt at *
  dsimp only at *
  by_cases h1 : bt s i = 58
  · rw [if_pos h1] at *; exact ⟨Nat.lt_succ_self i, hi⟩
  rw [if_neg h1] at *
  by_cases h2 : bt s i = 124
  · rw [if_pos h2] at *; exact ⟨Nat.lt_succ_self i, hi⟩
  rw [if_neg h2] at *
  by_cases h3 : bt s i = 59
  · rw [if_pos h3] at *; exact ⟨Nat.lt_succ_self i, hi⟩
  rw [if_neg h3] at *
  by_cases h4 : isLetN (bt s i) = true
  · rw [if_pos h4] at *
    have g1 : i < span isMoreN s i := span_gt hi (by simp [isMoreN, h4])
    have g2 := span_le isMoreN s i (by omega)
    split at h
    · simp at h
    · rename_i h5; rw [if_neg h5]; exact ⟨g1, g2⟩
  rw [if_neg h4] at *
  by_cases h5 : bt s i = 39
  · rw [if_pos h5] at *
    have g1 := span_ge isSpelN s (i + 1)
    split at h
    · simp at h
    · rename_i h6
      split at h
      · simp at h
      · rename_i h7
        rw [if_neg h6, if_neg h7]
        simp only [not_or] at h6
        exact ⟨by show i < _ + 1; omega, by show _ + 1 ≤ _; omega⟩
  rw [if_neg h5] at h
  simp at h
/-- all tokens from i on: them, or where and what is wrong -/
def lexGo (s : ByteArray) (i : Nat) : List Tk × Int × Int :=
  if h : skip s i < s.size then
    if he : (tokAt s (skip s i)).2.2 = 0 then
      let r := lexGo s (tokAt s (skip s i)).2.1
      if r.2.2 = 0 then ((tokAt s (skip s i)).1 :: r.1, 0, 0) else r
    else ([], (skip s i : Int), (tokAt s (skip s i)).2.2)
  else ([], 0, 0)
termination_by s.size - i
decreasing_by
  have h1 := tokAt_end h he
  have h2 := skip_ge s i
  omega
end Go.Proofs.Ytdmdcmhgfgookaa

/- Lexing: what the functions of the reference, layer 12, give. -/
set_option linter.unusedSimpArgs false
set_option linter.unusedVariables false
set_option maxRecDepth 100000
set_option maxHeartbeats 4000000
namespace Go.Proofs.Ytdmdcmhgfgookaa.A
open Go
def isLetI (c : Int) : Bool := decide ((97 ≤ c ∧ c ≤ 122) ∨ (65 ≤ c ∧ c ≤ 90))
def isMoreI (c : Int) : Bool := isLetI c || decide ((48 ≤ c ∧ c ≤ 57) ∨ c = 95)
theorem ret1_b {a b : Bool} (h : a = b) : ret1 (.st (vB a)) = ⟨false, [(false, [.st (.val (.bool b))])]⟩ := by rw [h]; rfl

theorem e_letter12 : Enters Try.prog 69 := enters Try.func69 (by kernel_rfl) (by kernel_rfl)
theorem pc_letter12 (n : Int) : PC Try.prog T 69 [.v false [vU n]] (ret1 (.st (vB (isLetI n)))) [] := by
  refine pc_of tok Try.func69 rfl (by rfl) ?_
  obtain ⟨j, hj⟩ : ∃ j : J, j = std Try.prog T := ⟨_, rfl⟩
  generalize y_isLetI : @isLetI = x_isLetI at *
  (repeat' first | ((first | with_reducible refine tr_cut (fun h => ?_) (fun h => ?_) | refine aw_condj (by cbv) (fun h => ?_) (fun h => ?_)) <;> (try simp (disch := omega) only [hj, std, cmpI, cmpB, satB, Bool.not_eq_true, Bool.not_eq_false, decide_eq_true_eq, decide_eq_false_iff_not, beq_iff_eq, bne_iff_ne, bne_eq_false_iff_eq, beq_eq_false_iff_ne, ne_eq, reduceCtorEq, not_true_eq_false, not_false_eq_true, add64, sub64] at h) <;> (try (exfalso; omega))) | (with_reducible refine tr_alt (fun h => ?_) ?_ <;> (try (exfalso; omega))) | (with_reducible refine tr_ob ?_ ?_) | (with_reducible refine tr_done ?_) | (refine aw_tr hj tok book0 (by cbv) ?_) | (refine aw_seq fun K hK => ?_) | (refine aw_tr1 hj tok book0 (by cbv) ?_) | (refine aw_skip ?_) | (refine aw_block ?_) | (refine aw_exit ?_) | (refine aw_ret ⟨.inr rfl, ret_okj hj (by cbv) ?_ ?_⟩) | (refine aw_ret ?_) | (with_reducible refine th_n ?_) | (with_reducible refine th_r ?_) | (with_reducible refine th_x ?_) | (with_reducible refine blk_n ?_) | (with_reducible refine blk_r ?_) | (with_reducible refine blk_x ?_) | (with_reducible refine blk_y rfl ?_) | (refine ⟨.inr rfl, ret_okj hj (by cbv) ?_ ?_⟩) | (refine ⟨.inl rfl, ret_okj hj (by cbv) ?_ ?_⟩) | ((with_reducible refine ⟨(_, _, _, _, _, _, _), by cbv, ?_, ?_⟩)) | ((with_reducible refine ⟨(_, _, _, _, _, _), by cbv, ?_, ?_⟩)) | ((with_reducible refine ⟨(_, _, _, _, _), by cbv, ?_, ?_⟩)) | ((with_reducible refine ⟨(_, _, _, _), by cbv, ?_, ?_⟩)) | ((with_reducible refine ⟨(_, _, _), by cbv, ?_, ?_⟩)) | ((with_reducible refine ⟨(_, _), by cbv, ?_, ?_⟩)) | ((with_reducible refine ⟨_, by cbv, ?_, ?_⟩)) | (with_reducible apply_assumption -symm -exfalso only [*]))
  all_goals ((try subst y_isLetI))
  all_goals first | exact obl0 | ((repeat (refine obl1 (by first | (simp (disch := omega) only [hj, std, cmpI, cmpB, satB, add64, sub64, isLetI] <;> omega) | (simp (disch := omega) [hj, std, cmpI, cmpB, satB, add64, sub64, isLetI] <;> omega) | (rw [Bool.eq_iff_iff]; simp (disch := omega) [hj, std, cmpI, cmpB, satB, add64, sub64, isLetI] <;> omega) | omega) ?_)); exact obl0) | (refine ret1_b ?_ <;> first | (simp (disch := omega) only [hj, std, cmpI, cmpB, satB, add64, sub64, isLetI] <;> omega) | (simp (disch := omega) [hj, std, cmpI, cmpB, satB, add64, sub64, isLetI] <;> omega) | (rw [Bool.eq_iff_iff]; simp (disch := omega) [hj, std, cmpI, cmpB, satB, add64, sub64, isLetI] <;> omega) | omega)
theorem c_letter12 (n : Int) : (std Try.prog T).pc 69 [.v false [vU n]] (ret1 (.st (vB (isLetI n)))) [] := ⟨e_letter12, pc_letter12 n⟩
def book1 (x_isLetI : Int → Bool) (x_isMoreI : Int → Bool) : Book := fun f xs => match f, xs with
  | 69, [.v false [.val (.int .u8 n)]] => some (ret1 (.st (vB (x_isLetI n))))
  | 73, [.v false [.val (.int .u8 n)]] => some (ret1 (.st (vB (x_isLetI n))))
  | 70, [.v false [.val (.int .u8 n)]] => some (ret1 (.st (vB (x_isMoreI n))))
  | 75, [.v false [.val (.int .u8 n)]] => some (ret1 (.st (vB (x_isMoreI n))))
  | _, _ => none
theorem pc_more12 (n : Int) : PC Try.prog T 70 [.v false [vU n]] (ret1 (.st (vB (isMoreI n)))) [] := by
  refine pc_of tok Try.func70 rfl (by rfl) ?_
  obtain ⟨j, hj⟩ : ∃ j : J, j = std Try.prog T := ⟨_, rfl⟩
  generalize y_isLetI : @isLetI = x_isLetI at *
  generalize y_isMoreI : @isMoreI = x_isMoreI at *
  (repeat' first | ((first | with_reducible refine tr_cut (fun h => ?_) (fun h => ?_) | refine aw_condj (by cbv) (fun h => ?_) (fun h => ?_)) <;> (try simp (disch := omega) only [hj, std, cmpI, cmpB, satB, Bool.not_eq_true, Bool.not_eq_false, decide_eq_true_eq, decide_eq_false_iff_not, beq_iff_eq, bne_iff_ne, bne_eq_false_iff_eq, beq_eq_false_iff_ne, ne_eq, reduceCtorEq, not_true_eq_false, not_false_eq_true, add64, sub64] at h) <;> (try (exfalso; omega))) | (with_reducible refine tr_alt (fun h => ?_) ?_ <;> (try (exfalso; omega))) | (with_reducible refine tr_ob ?_ ?_) | (with_reducible refine tr_done ?_) | (refine aw_tr hj tok (book1 x_isLetI x_isMoreI) (by cbv) ?_) | (refine aw_seq fun K hK => ?_) | (refine aw_tr1 hj tok (book1 x_isLetI x_isMoreI) (by cbv) ?_) | (refine aw_skip ?_) | (refine aw_block ?_) | (refine aw_exit ?_) | (refine aw_ret ⟨.inr rfl, ret_okj hj (by cbv) ?_ ?_⟩) | (refine aw_ret ?_) | (with_reducible refine th_n ?_) | (with_reducible refine th_r ?_) | (with_reducible refine th_x ?_) | (with_reducible refine blk_n ?_) | (with_reducible refine blk_r ?_) | (with_reducible refine blk_x ?_) | (with_reducible refine blk_y rfl ?_) | (refine ⟨.inr rfl, ret_okj hj (by cbv) ?_ ?_⟩) | (refine ⟨.inl rfl, ret_okj hj (by cbv) ?_ ?_⟩) | ((with_reducible refine ⟨(_, _, _, _, _, _, _), by cbv, ?_, ?_⟩)) | ((with_reducible refine ⟨(_, _, _, _, _, _), by cbv, ?_, ?_⟩)) | ((with_reducible refine ⟨(_, _, _, _, _), by cbv, ?_, ?_⟩)) | ((with_reducible refine ⟨(_, _, _, _), by cbv, ?_, ?_⟩)) | ((with_reducible refine ⟨(_, _, _), by cbv, ?_, ?_⟩)) | ((with_reducible refine ⟨(_, _), by cbv, ?_, ?_⟩)) | ((with_reducible refine ⟨_, by cbv, ?_, ?_⟩)) | (with_reducible apply_assumption -symm -exfalso only [*]))
  all_goals ((try subst y_isLetI); (try subst y_isMoreI))
  all_goals first | exact obl0 | ((repeat (refine obl1 (by first | (rw [hj]; exact c_letter12 _) | (simp (disch := omega) only [hj, std, cmpI, cmpB, satB, add64, sub64, isMoreI, *] <;> omega) | (simp (disch := omega) [hj, std, cmpI, cmpB, satB, add64, sub64, isMoreI, *] <;> omega) | (rw [Bool.eq_iff_iff]; simp (disch := omega) [hj, std, cmpI, cmpB, satB, add64, sub64, isMoreI, *] <;> omega) | omega) ?_)); exact obl0) | (refine ret1_b ?_ <;> first | (rw [hj]; exact c_letter12 _) | (simp (disch := omega) only [hj, std, cmpI, cmpB, satB, add64, sub64, isMoreI, *] <;> omega) | (simp (disch := omega) [hj, std, cmpI, cmpB, satB, add64, sub64, isMoreI, *] <;> omega) | (rw [Bool.eq_iff_iff]; simp (disch := omega) [hj, std, cmpI, cmpB, satB, add64, sub64, isMoreI, *] <;> omega) | omega)
end Go.Proofs.Ytdmdcmhgfgookaa.A

/- Lexing: run. -/
set_option linter.unusedSimpArgs false
set_option linter.unusedVariables false
set_option maxRecDepth 100000
set_option maxHeartbeats 4000000
namespace Go.Proofs.Ytdmdcmhgfgookaa.A
open Go
theorem ret1_i {a b : Int} (h : a = b) : ret1 (.st (vI a)) = ⟨false, [(false, [.st (.val (.int .i64 b))])]⟩ := by rw [h]; rfl
def spanI (p : Int → Bool) (s : ByteArray) (i : Int) : Int := (span (fun c => p (c : Int)) s i.toNat : Nat)
theorem spanI_step {p : Int → Bool} {s : ByteArray} {i : Int} (h0 : 0 ≤ i) (h : i < s.size) (hp : p (bt s i.toNat : Int) = true) : spanI p s (i + 1) = spanI p s i := by
  unfold spanI
  rw [span_step (i := i.toNat) (by omega) hp, show (i + 1).toNat = i.toNat + 1 by omega]
theorem spanI_end {p : Int → Bool} {s : ByteArray} {i : Int} (h0 : 0 ≤ i) (h : ¬ i < s.size) : spanI p s i = i := by
  unfold spanI
  rw [span_stop (i := i.toNat) (by omega)]; omega
theorem spanI_stop {p : Int → Bool} {s : ByteArray} {i : Int} (h0 : 0 ≤ i) (hp : p (bt s i.toNat : Int) = false) : spanI p s i = i := by
  unfold spanI
  rw [span_stop (i := i.toNat) (by simp [hp])]; omega
def bookR (p : Int → Bool) : Book := fun _ xs => match xs with | [.v false [.val (.int .u8 n)]] => some (ret1 (.st (vB (p n)))) | _ => none
theorem pc_run (s : ByteArray) (f : FuncId) (p : Int → Bool) (hs : s.size < 4611686018427387904) (hp : ∀ n, (std Try.prog T).pc f [.v false [vU n]] (ret1 (.st (vB (p n)))) []) :
    PC Try.prog T 74 [.v false [vS s], .fn f] (ret1 (.st (vI (spanI p s 0)))) [] := by
  refine pc_of tok Try.func74 rfl (by rfl) ?_
  obtain ⟨j, hj⟩ : ∃ j : J, j = std Try.prog T := ⟨_, rfl⟩
  generalize y_spanI : @spanI = x_spanI at *
  (repeat' first | ((first | with_reducible refine tr_cut (fun h => ?_) (fun h => ?_) | refine aw_condj (by cbv) (fun h => ?_) (fun h => ?_)) <;> (try simp (disch := omega) only [hj, std, cmpI, cmpB, satB, Bool.not_eq_true, Bool.not_eq_false, decide_eq_true_eq, decide_eq_false_iff_not, beq_iff_eq, bne_iff_ne, bne_eq_false_iff_eq, beq_eq_false_iff_ne, ne_eq, reduceCtorEq, not_true_eq_false, not_false_eq_true, add64, sub64] at h) <;> (try (exfalso; omega))) | (with_reducible refine tr_alt (fun h => ?_) ?_ <;> (try (exfalso; omega))) | (with_reducible refine tr_ob ?_ ?_) | (with_reducible refine tr_done ?_) | (refine aw_tr hj tok (bookR p) (by cbv) ?_) | (refine aw_seq fun K hK => ?_) | (refine aw_tr1 hj tok (bookR p) (by cbv) ?_) | (refine aw_skip ?_) | (refine aw_block ?_) | (refine aw_exit ?_) | (refine aw_ret ⟨.inr rfl, ret_okj hj (by cbv) ?_ ?_⟩) | (refine aw_ret ?_) | (with_reducible refine th_n ?_) | (with_reducible refine th_r ?_) | (with_reducible refine th_x ?_) | (with_reducible refine blk_n ?_) | (with_reducible refine blk_r ?_) | (with_reducible refine blk_x ?_) | (with_reducible refine blk_y rfl ?_) | (refine ⟨.inr rfl, ret_okj hj (by cbv) ?_ ?_⟩) | (refine ⟨.inl rfl, ret_okj hj (by cbv) ?_ ?_⟩) | ((with_reducible refine ⟨(_, _, _, _, _, _, _), by cbv, ?_, ?_⟩)) | ((with_reducible refine ⟨(_, _, _, _, _, _), by cbv, ?_, ?_⟩)) | ((with_reducible refine ⟨(_, _, _, _, _), by cbv, ?_, ?_⟩)) | ((with_reducible refine ⟨(_, _, _, _), by cbv, ?_, ?_⟩)) | ((with_reducible refine ⟨(_, _, _), by cbv, ?_, ?_⟩)) | ((with_reducible refine ⟨(_, _), by cbv, ?_, ?_⟩)) | ((with_reducible refine ⟨_, by cbv, ?_, ?_⟩)) | (with_reducible apply_assumption -symm -exfalso only [*]))
  all_goals ((try subst y_spanI))
  refine aw_lpj hj [(0, .keep), (1, .keep), (5, .keep)] [] (fun i : Int => stOf 20 [(0, .one (.c (vS s))), (1, .one (.fn f [])), (5, .one (.c (vI i)))] []) (fun i => s.size - i.toNat) (fun i => 0 ≤ i ∧ i ≤ s.size ∧ spanI p s i = spanI p s 0) 0 (by generalize @spanI = x_spanI; cbv) ⟨by omega, by omega, rfl⟩ fun i ⟨i1, i2, i3⟩ => ?_
  generalize y_spanI : @spanI = x_spanI at *
  (repeat' first | ((first | with_reducible refine tr_cut (fun h => ?_) (fun h => ?_) | refine aw_condj (by cbv) (fun h => ?_) (fun h => ?_)) <;> (try simp (disch := omega) only [hj, std, cmpI, cmpB, satB, Bool.not_eq_true, Bool.not_eq_false, decide_eq_true_eq, decide_eq_false_iff_not, beq_iff_eq, bne_iff_ne, bne_eq_false_iff_eq, beq_eq_false_iff_ne, ne_eq, reduceCtorEq, not_true_eq_false, not_false_eq_true, add64, sub64] at h) <;> (try (exfalso; omega))) | (with_reducible refine tr_alt (fun h => ?_) ?_ <;> (try (exfalso; omega))) | (with_reducible refine tr_ob ?_ ?_) | (with_reducible refine tr_done ?_) | (refine aw_tr hj tok (bookR p) (by cbv) ?_) | (refine aw_seq fun K hK => ?_) | (refine aw_tr1 hj tok (bookR p) (by cbv) ?_) | (refine aw_skip ?_) | (refine aw_block ?_) | (refine aw_exit ?_) | (refine aw_ret ⟨.inr rfl, ret_okj hj (by cbv) ?_ ?_⟩) | (refine aw_ret ?_) | (with_reducible refine th_n ?_) | (with_reducible refine th_r ?_) | (with_reducible refine th_x ?_) | (with_reducible refine blk_n ?_) | (with_reducible refine blk_r ?_) | (with_reducible refine blk_x ?_) | (with_reducible refine blk_y rfl ?_) | (refine ⟨.inr rfl, ret_okj hj (by cbv) ?_ ?_⟩) | (refine ⟨.inl rfl, ret_okj hj (by cbv) ?_ ?_⟩) | ((with_reducible refine ⟨(_, _, _, _, _, _, _), by cbv, ?_, ?_⟩)) | ((with_reducible refine ⟨(_, _, _, _, _, _), by cbv, ?_, ?_⟩)) | ((with_reducible refine ⟨(_, _, _, _, _), by cbv, ?_, ?_⟩)) | ((with_reducible refine ⟨(_, _, _, _), by cbv, ?_, ?_⟩)) | ((with_reducible refine ⟨(_, _, _), by cbv, ?_, ?_⟩)) | ((with_reducible refine ⟨(_, _), by cbv, ?_, ?_⟩)) | ((with_reducible refine ⟨_, by cbv, ?_, ?_⟩)) | (with_reducible apply_assumption -symm -exfalso only [*]))
  all_goals ((try subst y_spanI))
  all_goals first | exact obl0 | ((repeat (refine obl1 (by first | (rw [← i3]; exact (spanI_stop i1 ‹_›).symm ▸ rfl) | (rw [← i3]; exact spanI_stop i1 ‹_›) | (rw [← i3]; exact spanI_end i1 ‹_›) | (rw [hj]; exact hp _) | (rw [hj]; simp only [std]; rw [add64 (by omega) (by omega), spanI_step i1 ‹_› ‹_›]; exact i3) | (simp (disch := omega) only [hj, std, cmpI, cmpB, satB, add64, sub64] <;> omega) | (simp (disch := omega) [hj, std, cmpI, cmpB, satB, add64, sub64] <;> omega) | (rw [Bool.eq_iff_iff]; simp (disch := omega) [hj, std, cmpI, cmpB, satB, add64, sub64] <;> omega) | omega) ?_)); exact obl0) | (refine ret1_i ?_ <;> first | (rw [← i3]; exact (spanI_stop i1 ‹_›).symm ▸ rfl) | (rw [← i3]; exact spanI_stop i1 ‹_›) | (rw [← i3]; exact spanI_end i1 ‹_›) | (rw [hj]; exact hp _) | (rw [hj]; simp only [std]; rw [add64 (by omega) (by omega), spanI_step i1 ‹_› ‹_›]; exact i3) | (simp (disch := omega) only [hj, std, cmpI, cmpB, satB, add64, sub64] <;> omega) | (simp (disch := omega) [hj, std, cmpI, cmpB, satB, add64, sub64] <;> omega) | (rw [Bool.eq_iff_iff]; simp (disch := omega) [hj, std, cmpI, cmpB, satB, add64, sub64] <;> omega) | omega) | (and_intros <;> first | (rw [← i3]; exact (spanI_stop i1 ‹_›).symm ▸ rfl) | (rw [← i3]; exact spanI_stop i1 ‹_›) | (rw [← i3]; exact spanI_end i1 ‹_›) | (rw [hj]; exact hp _) | (rw [hj]; simp only [std]; rw [add64 (by omega) (by omega), spanI_step i1 ‹_› ‹_›]; exact i3) | (simp (disch := omega) only [hj, std, cmpI, cmpB, satB, add64, sub64] <;> omega) | (simp (disch := omega) [hj, std, cmpI, cmpB, satB, add64, sub64] <;> omega) | (rw [Bool.eq_iff_iff]; simp (disch := omega) [hj, std, cmpI, cmpB, satB, add64, sub64] <;> omega) | omega) | (refine ret1_b ?_ <;> first | (rw [← i3]; exact (spanI_stop i1 ‹_›).symm ▸ rfl) | (rw [← i3]; exact spanI_stop i1 ‹_›) | (rw [← i3]; exact spanI_end i1 ‹_›) | (rw [hj]; exact hp _) | (rw [hj]; simp only [std]; rw [add64 (by omega) (by omega), spanI_step i1 ‹_› ‹_›]; exact i3) | (simp (disch := omega) only [hj, std, cmpI, cmpB, satB, add64, sub64] <;> omega) | (simp (disch := omega) [hj, std, cmpI, cmpB, satB, add64, sub64] <;> omega) | (rw [Bool.eq_iff_iff]; simp (disch := omega) [hj, std, cmpI, cmpB, satB, add64, sub64] <;> omega) | omega)
end Go.Proofs.Ytdmdcmhgfgookaa.A

/- Names and terminals: what the functions of lex and of reference 12 give. -/
set_option linter.unusedSimpArgs false
set_option linter.unusedVariables false
set_option maxRecDepth 100000
set_option maxHeartbeats 4000000
namespace Go.Proofs.Ytdmdcmhgfgookaa.A
open Go
def isSpelI (c : Int) : Bool := decide (32 ≤ c ∧ c ≤ 126 ∧ c ≠ 39 ∧ c ≠ 92)
theorem c_letter (n : Int) : pc 73 [.v false [vU n]] (ret1 (.st (vB (isLetI n)))) := by
  refine ⟨enters Try.func73 (by kernel_rfl) (by kernel_rfl), pc_of tok Try.func73 rfl (by rfl) ?_⟩
  obtain ⟨j, hj⟩ : ∃ j : J, j = std Try.prog T := ⟨_, rfl⟩
  generalize y_isLetI : @isLetI = x_isLetI at *
  (repeat' first | ((first | with_reducible refine tr_cut (fun h => ?_) (fun h => ?_) | refine aw_condj (by cbv) (fun h => ?_) (fun h => ?_)) <;> (try simp (disch := omega) only [hj, std, cmpI, cmpB, satB, Bool.not_eq_true, Bool.not_eq_false, decide_eq_true_eq, decide_eq_false_iff_not, beq_iff_eq, bne_iff_ne, bne_eq_false_iff_eq, beq_eq_false_iff_ne, ne_eq, reduceCtorEq, not_true_eq_false, not_false_eq_true, add64, sub64] at h) <;> (try (exfalso; omega))) | (with_reducible refine tr_alt (fun h => ?_) ?_ <;> (try (exfalso; omega))) | (with_reducible refine tr_ob ?_ ?_) | (with_reducible refine tr_done ?_) | (refine aw_tr hj tok book0 (by cbv) ?_) | (refine aw_seq fun K hK => ?_) | (refine aw_tr1 hj tok book0 (by cbv) ?_) | (refine aw_skip ?_) | (refine aw_block ?_) | (refine aw_exit ?_) | (refine aw_ret ⟨.inr rfl, ret_okj hj (by cbv) ?_ ?_⟩) | (refine aw_ret ?_) | (with_reducible refine th_n ?_) | (with_reducible refine th_r ?_) | (with_reducible refine th_x ?_) | (with_reducible refine blk_n ?_) | (with_reducible refine blk_r ?_) | (with_reducible refine blk_x ?_) | (with_reducible refine blk_y rfl ?_) | (refine ⟨.inr rfl, ret_okj hj (by cbv) ?_ ?_⟩) | (refine ⟨.inl rfl, ret_okj hj (by cbv) ?_ ?_⟩) | ((with_reducible refine ⟨(_, _, _, _, _, _, _), by cbv, ?_, ?_⟩)) | ((with_reducible refine ⟨(_, _, _, _, _, _), by cbv, ?_, ?_⟩)) | ((with_reducible refine ⟨(_, _, _, _, _), by cbv, ?_, ?_⟩)) | ((with_reducible refine ⟨(_, _, _, _), by cbv, ?_, ?_⟩)) | ((with_reducible refine ⟨(_, _, _), by cbv, ?_, ?_⟩)) | ((with_reducible refine ⟨(_, _), by cbv, ?_, ?_⟩)) | ((with_reducible refine ⟨_, by cbv, ?_, ?_⟩)) | (with_reducible apply_assumption -symm -exfalso only [*]))
  all_goals ((try subst y_isLetI))
  all_goals first | exact obl0 | ((repeat (refine obl1 (by first | (simp (disch := omega) only [hj, std, cmpI, cmpB, satB, add64, sub64, isLetI] <;> omega) | (simp (disch := omega) [hj, std, cmpI, cmpB, satB, add64, sub64, isLetI] <;> omega) | (rw [Bool.eq_iff_iff]; simp (disch := omega) [hj, std, cmpI, cmpB, satB, add64, sub64, isLetI] <;> omega) | omega) ?_)); exact obl0) | (refine ret1_b ?_ <;> first | (simp (disch := omega) only [hj, std, cmpI, cmpB, satB, add64, sub64, isLetI] <;> omega) | (simp (disch := omega) [hj, std, cmpI, cmpB, satB, add64, sub64, isLetI] <;> omega) | (rw [Bool.eq_iff_iff]; simp (disch := omega) [hj, std, cmpI, cmpB, satB, add64, sub64, isLetI] <;> omega) | omega)
theorem c_goes (n : Int) : pc 75 [.v false [vU n]] (ret1 (.st (vB (isMoreI n)))) := by
  refine ⟨enters Try.func75 (by kernel_rfl) (by kernel_rfl), pc_of tok Try.func75 rfl (by rfl) ?_⟩
  obtain ⟨j, hj⟩ : ∃ j : J, j = std Try.prog T := ⟨_, rfl⟩
  generalize y_isLetI : @isLetI = x_isLetI at *
  generalize y_isMoreI : @isMoreI = x_isMoreI at *
  (repeat' first | ((first | with_reducible refine tr_cut (fun h => ?_) (fun h => ?_) | refine aw_condj (by cbv) (fun h => ?_) (fun h => ?_)) <;> (try simp (disch := omega) only [hj, std, cmpI, cmpB, satB, Bool.not_eq_true, Bool.not_eq_false, decide_eq_true_eq, decide_eq_false_iff_not, beq_iff_eq, bne_iff_ne, bne_eq_false_iff_eq, beq_eq_false_iff_ne, ne_eq, reduceCtorEq, not_true_eq_false, not_false_eq_true, add64, sub64] at h) <;> (try (exfalso; omega))) | (with_reducible refine tr_alt (fun h => ?_) ?_ <;> (try (exfalso; omega))) | (with_reducible refine tr_ob ?_ ?_) | (with_reducible refine tr_done ?_) | (refine aw_tr hj tok (book1 x_isLetI x_isMoreI) (by cbv) ?_) | (refine aw_seq fun K hK => ?_) | (refine aw_tr1 hj tok (book1 x_isLetI x_isMoreI) (by cbv) ?_) | (refine aw_skip ?_) | (refine aw_block ?_) | (refine aw_exit ?_) | (refine aw_ret ⟨.inr rfl, ret_okj hj (by cbv) ?_ ?_⟩) | (refine aw_ret ?_) | (with_reducible refine th_n ?_) | (with_reducible refine th_r ?_) | (with_reducible refine th_x ?_) | (with_reducible refine blk_n ?_) | (with_reducible refine blk_r ?_) | (with_reducible refine blk_x ?_) | (with_reducible refine blk_y rfl ?_) | (refine ⟨.inr rfl, ret_okj hj (by cbv) ?_ ?_⟩) | (refine ⟨.inl rfl, ret_okj hj (by cbv) ?_ ?_⟩) | ((with_reducible refine ⟨(_, _, _, _, _, _, _), by cbv, ?_, ?_⟩)) | ((with_reducible refine ⟨(_, _, _, _, _, _), by cbv, ?_, ?_⟩)) | ((with_reducible refine ⟨(_, _, _, _, _), by cbv, ?_, ?_⟩)) | ((with_reducible refine ⟨(_, _, _, _), by cbv, ?_, ?_⟩)) | ((with_reducible refine ⟨(_, _, _), by cbv, ?_, ?_⟩)) | ((with_reducible refine ⟨(_, _), by cbv, ?_, ?_⟩)) | ((with_reducible refine ⟨_, by cbv, ?_, ?_⟩)) | (with_reducible apply_assumption -symm -exfalso only [*]))
  all_goals ((try subst y_isLetI); (try subst y_isMoreI))
  all_goals first | exact obl0 | ((repeat (refine obl1 (by first | (rw [hj]; exact c_letter _) | (simp (disch := omega) only [hj, std, cmpI, cmpB, satB, add64, sub64, isMoreI, *] <;> omega) | (simp (disch := omega) [hj, std, cmpI, cmpB, satB, add64, sub64, isMoreI, *] <;> omega) | (rw [Bool.eq_iff_iff]; simp (disch := omega) [hj, std, cmpI, cmpB, satB, add64, sub64, isMoreI, *] <;> omega) | omega) ?_)); exact obl0) | (refine ret1_b ?_ <;> first | (rw [hj]; exact c_letter _) | (simp (disch := omega) only [hj, std, cmpI, cmpB, satB, add64, sub64, isMoreI, *] <;> omega) | (simp (disch := omega) [hj, std, cmpI, cmpB, satB, add64, sub64, isMoreI, *] <;> omega) | (rw [Bool.eq_iff_iff]; simp (disch := omega) [hj, std, cmpI, cmpB, satB, add64, sub64, isMoreI, *] <;> omega) | omega)
theorem c_spells (n : Int) : pc 76 [.v false [vU n]] (ret1 (.st (vB (isSpelI n)))) := by
  refine ⟨enters Try.func76 (by kernel_rfl) (by kernel_rfl), pc_of tok Try.func76 rfl (by rfl) ?_⟩
  obtain ⟨j, hj⟩ : ∃ j : J, j = std Try.prog T := ⟨_, rfl⟩
  generalize y_isSpelI : @isSpelI = x_isSpelI at *
  (repeat' first | ((first | with_reducible refine tr_cut (fun h => ?_) (fun h => ?_) | refine aw_condj (by cbv) (fun h => ?_) (fun h => ?_)) <;> (try simp (disch := omega) only [hj, std, cmpI, cmpB, satB, Bool.not_eq_true, Bool.not_eq_false, decide_eq_true_eq, decide_eq_false_iff_not, beq_iff_eq, bne_iff_ne, bne_eq_false_iff_eq, beq_eq_false_iff_ne, ne_eq, reduceCtorEq, not_true_eq_false, not_false_eq_true, add64, sub64] at h) <;> (try (exfalso; omega))) | (with_reducible refine tr_alt (fun h => ?_) ?_ <;> (try (exfalso; omega))) | (with_reducible refine tr_ob ?_ ?_) | (with_reducible refine tr_done ?_) | (refine aw_tr hj tok book0 (by cbv) ?_) | (refine aw_seq fun K hK => ?_) | (refine aw_tr1 hj tok book0 (by cbv) ?_) | (refine aw_skip ?_) | (refine aw_block ?_) | (refine aw_exit ?_) | (refine aw_ret ⟨.inr rfl, ret_okj hj (by cbv) ?_ ?_⟩) | (refine aw_ret ?_) | (with_reducible refine th_n ?_) | (with_reducible refine th_r ?_) | (with_reducible refine th_x ?_) | (with_reducible refine blk_n ?_) | (with_reducible refine blk_r ?_) | (with_reducible refine blk_x ?_) | (with_reducible refine blk_y rfl ?_) | (refine ⟨.inr rfl, ret_okj hj (by cbv) ?_ ?_⟩) | (refine ⟨.inl rfl, ret_okj hj (by cbv) ?_ ?_⟩) | ((with_reducible refine ⟨(_, _, _, _, _, _, _), by cbv, ?_, ?_⟩)) | ((with_reducible refine ⟨(_, _, _, _, _, _), by cbv, ?_, ?_⟩)) | ((with_reducible refine ⟨(_, _, _, _, _), by cbv, ?_, ?_⟩)) | ((with_reducible refine ⟨(_, _, _, _), by cbv, ?_, ?_⟩)) | ((with_reducible refine ⟨(_, _, _), by cbv, ?_, ?_⟩)) | ((with_reducible refine ⟨(_, _), by cbv, ?_, ?_⟩)) | ((with_reducible refine ⟨_, by cbv, ?_, ?_⟩)) | (with_reducible apply_assumption -symm -exfalso only [*]))
  all_goals ((try subst y_isSpelI))
  all_goals first | exact obl0 | ((repeat (refine obl1 (by first | (simp (disch := omega) only [hj, std, cmpI, cmpB, satB, add64, sub64, isSpelI] <;> omega) | (simp (disch := omega) [hj, std, cmpI, cmpB, satB, add64, sub64, isSpelI] <;> omega) | (rw [Bool.eq_iff_iff]; simp (disch := omega) [hj, std, cmpI, cmpB, satB, add64, sub64, isSpelI] <;> omega) | omega) ?_)); exact obl0) | (refine ret1_b ?_ <;> first | (simp (disch := omega) only [hj, std, cmpI, cmpB, satB, add64, sub64, isSpelI] <;> omega) | (simp (disch := omega) [hj, std, cmpI, cmpB, satB, add64, sub64, isSpelI] <;> omega) | (rw [Bool.eq_iff_iff]; simp (disch := omega) [hj, std, cmpI, cmpB, satB, add64, sub64, isSpelI] <;> omega) | omega)
theorem c_run {s : ByteArray} {f : FuncId} {p : Int → Bool} (hs : s.size < 4611686018427387904) (hp : ∀ n, pc f [.v false [vU n]] (ret1 (.st (vB (p n))))) :
    pc 74 [.v false [vS s], .fn f] (ret1 (.st (vI (spanI p s 0)))) :=
  ⟨enters Try.func74 (by kernel_rfl) (by kernel_rfl), pc_run s f p hs hp⟩
def sizedI (s : ByteArray) : Bool := decide (1 ≤ s.size ∧ s.size ≤ 32)
def nameI (s : ByteArray) : Bool := decide (1 ≤ s.size ∧ s.size ≤ 32 ∧ isLetI (bt s 0) = true ∧ spanI isMoreI s 0 = s.size)
def termI (s : ByteArray) : Bool := decide (1 ≤ s.size ∧ s.size ≤ 32 ∧ spanI isSpelI s 0 = s.size)
theorem name_yes {s : ByteArray} (h : nameI s = true) : 1 ≤ s.size ∧ s.size ≤ 32 ∧ isLetI (bt s 0) = true ∧ spanI isMoreI s 0 = s.size := of_decide_eq_true h
theorem term_yes {s : ByteArray} (h : termI s = true) : 1 ≤ s.size ∧ s.size ≤ 32 ∧ spanI isSpelI s 0 = s.size := of_decide_eq_true h
theorem name_no1 {s : ByteArray} (h : ¬ (1 ≤ s.size ∧ s.size ≤ 32)) : nameI s = false := decide_eq_false fun hh => h ⟨hh.1, hh.2.1⟩
theorem name_no2 {s : ByteArray} (h : isLetI (bt s 0) = false) : nameI s = false := decide_eq_false fun hh => by rw [h] at hh; exact absurd hh.2.2.1 (by decide)
theorem name_no3 {s : ByteArray} {i : Int} (h0 : 0 ≤ i) (h : i < s.size) (h2 : spanI isMoreI s i = spanI isMoreI s 0) (h3 : isMoreI (bt s i.toNat) = false) : nameI s = false :=
  decide_eq_false fun hh => by have := spanI_stop (p := isMoreI) h0 h3; omega
theorem name_ok {s : ByteArray} {i : Int} (h0 : 0 ≤ i) (h : ¬ i < s.size) (h1 : i ≤ s.size) (h2 : spanI isMoreI s i = spanI isMoreI s 0) (h3 : isLetI (bt s 0) = true) (h4 : ¬ s.size < 1) (h5 : ¬ s.size > 32) : nameI s = true :=
  decide_eq_true ⟨by omega, by omega, h3, by have := spanI_end (p := isMoreI) h0 h; omega⟩
theorem term_no1 {s : ByteArray} (h : ¬ (1 ≤ s.size ∧ s.size ≤ 32)) : termI s = false := decide_eq_false fun hh => h ⟨hh.1, hh.2.1⟩
theorem term_no3 {s : ByteArray} {i : Int} (h0 : 0 ≤ i) (h : i < s.size) (h2 : spanI isSpelI s i = spanI isSpelI s 0) (h3 : isSpelI (bt s i.toNat) = false) : termI s = false :=
  decide_eq_false fun hh => by have := spanI_stop (p := isSpelI) h0 h3; omega
theorem term_ok {s : ByteArray} {i : Int} (h0 : 0 ≤ i) (h : ¬ i < s.size) (h1 : i ≤ s.size) (h2 : spanI isSpelI s i = spanI isSpelI s 0) (h4 : ¬ s.size < 1) (h5 : ¬ s.size > 32) : termI s = true :=
  decide_eq_true ⟨by omega, by omega, by have := spanI_end (p := isSpelI) h0 h; omega⟩
theorem name_run {s : ByteArray} (h1 : sizedI s = true) (h2 : isLetI (bt s 0) = true) : nameI s = (spanI isMoreI s 0 == (s.size : Int)) := by
  have h := of_decide_eq_true h1
  unfold nameI
  rw [Bool.eq_iff_iff]
  simp [h.1, h.2, h2]
theorem term_run {s : ByteArray} (h1 : sizedI s = true) : termI s = (spanI isSpelI s 0 == (s.size : Int)) := by
  have h := of_decide_eq_true h1
  unfold termI
  rw [Bool.eq_iff_iff]
  simp [h.1, h.2]
theorem sized_no {s : ByteArray} (h : sizedI s = false) : ¬ (1 ≤ s.size ∧ s.size ≤ 32) := of_decide_eq_false h
theorem c_more12 (n : Int) : pc 70 [.v false [vU n]] (ret1 (.st (vB (isMoreI n)))) := ⟨enters Try.func70 (by kernel_rfl) (by kernel_rfl), pc_more12 n⟩
theorem pc_Name12 (s : ByteArray) (hs : s.size < 4611686018427387904) : PC Try.prog T 38 [.v false [vS s]] (ret1 (.st (vB (nameI s)))) [] := by
  refine pc_of tok Try.func38 rfl (by rfl) ?_
  obtain ⟨j, hj⟩ : ∃ j : J, j = std Try.prog T := ⟨_, rfl⟩
  have hm : Try.prog.follows .mixedOrders = true := by kernel_rfl
  generalize y_isLetI : @isLetI = x_isLetI at *
  generalize y_isMoreI : @isMoreI = x_isMoreI at *
  generalize y_nameI : @nameI = x_nameI at *
  generalize y_spanI : @spanI = x_spanI at *
  (repeat' first | ((first | with_reducible refine tr_cut (fun h => ?_) (fun h => ?_) | refine aw_condj (by cbv) (fun h => ?_) (fun h => ?_)) <;> (try simp (disch := omega) only [hj, std, cmpI, cmpB, satB, Bool.not_eq_true, Bool.not_eq_false, decide_eq_true_eq, decide_eq_false_iff_not, beq_iff_eq, bne_iff_ne, bne_eq_false_iff_eq, beq_eq_false_iff_ne, ne_eq, reduceCtorEq, not_true_eq_false, not_false_eq_true, pl0, if_true, cmpS_eq, cmpS_neq, Bool.not_eq_eq_eq_not, Bool.not_true, Bool.not_false, Bool.not_eq_true', add64, sub64] at h) <;> (try (exfalso; omega))) | (with_reducible refine tr_alt (fun h => ?_) ?_ <;> (try (exfalso; omega))) | (with_reducible refine tr_ob ?_ ?_) | (with_reducible refine tr_done ?_) | (refine aw_tr hj tok (book1 x_isLetI x_isMoreI) (by cbv) ?_) | (refine aw_seq fun K hK => ?_) | (refine aw_tr1 hj tok (book1 x_isLetI x_isMoreI) (by cbv) ?_) | (refine aw_skip ?_) | (refine aw_block ?_) | (refine aw_exit ?_) | (refine aw_ret ⟨.inr rfl, ret_okj hj (by cbv) ?_ ?_⟩) | (refine aw_ret ?_) | (with_reducible refine th_n ?_) | (with_reducible refine th_r ?_) | (with_reducible refine th_x ?_) | (with_reducible refine blk_n ?_) | (with_reducible refine blk_r ?_) | (with_reducible refine blk_x ?_) | (with_reducible refine blk_y rfl ?_) | (refine ⟨.inr rfl, ret_okj hj (by cbv) ?_ ?_⟩) | (refine ⟨.inl rfl, ret_okj hj (by cbv) ?_ ?_⟩) | ((with_reducible refine ⟨(_, _, _, _, _, _, _), by cbv, ?_, ?_⟩)) | ((with_reducible refine ⟨(_, _, _, _, _, _), by cbv, ?_, ?_⟩)) | ((with_reducible refine ⟨(_, _, _, _, _), by cbv, ?_, ?_⟩)) | ((with_reducible refine ⟨(_, _, _, _), by cbv, ?_, ?_⟩)) | ((with_reducible refine ⟨(_, _, _), by cbv, ?_, ?_⟩)) | ((with_reducible refine ⟨(_, _), by cbv, ?_, ?_⟩)) | ((with_reducible refine ⟨_, by cbv, ?_, ?_⟩)) | (with_reducible apply_assumption -symm -exfalso only [*]))
  all_goals ((try subst y_isLetI); (try subst y_isMoreI); (try subst y_nameI); (try subst y_spanI))
  all_goals (try (repeat' first | with_reducible exact obl0 | with_reducible refine obl1 ?_ ?_))
  all_goals (try first | with_reducible exact True.intro | (refine ob_pc hj ?_; (try rw [hj]); first | exact c_letter12 _) | (refine ob_pcn hj ?_; (try rw [hj]); first | exact c_letter12 _) | ((first | refine ob_le hj ?_ | refine ob_lei hj ?_ | refine ob_inb hj ?_ | refine ob_pos hj ?_ | refine ob_ne0 hj ?_ | refine ob_eqb hj ?_); (first | rfl | first | omega | (simp only [hj, std]; split <;> omega) | (simp (disch := omega) only [hj, std, cmpI, cmpB, satB, add64, sub64, ite0, pl0, pl2, pl3, sb0, if_true, if_false, eq_self] <;> omega) | (simp (disch := omega) [hj, std, cmpI, cmpB, satB, add64, sub64, ite0, pl0, pl2, pl3, sb0, if_true, if_false, eq_self] <;> omega))) | ((refine ret1_b (name_no1 ?_); omega)) | ((have hl := ‹isLetI _ = false›; exact ret1_b (name_no2 hl))))
  refine aw_lpj hj [(0, .keep), (3, .keep)] [] (fun i : Int => stOf 29 [(0, .one (.c (vS s))), (3, .one (.c (vI i)))] []) (fun i => s.size - i.toNat) (fun i => 0 ≤ i ∧ i ≤ s.size ∧ spanI isMoreI s i = spanI isMoreI s 0) 0 (by generalize @isLetI = x_isLetI; generalize @isMoreI = x_isMoreI; generalize @nameI = x_nameI; generalize @spanI = x_spanI; cbv) ⟨by omega, by omega, rfl⟩ fun i ⟨i1, i2, i3⟩ => ?_
  generalize y_isLetI : @isLetI = x_isLetI at *
  generalize y_isMoreI : @isMoreI = x_isMoreI at *
  generalize y_nameI : @nameI = x_nameI at *
  generalize y_spanI : @spanI = x_spanI at *
  (repeat' first | ((first | with_reducible refine tr_cut (fun h => ?_) (fun h => ?_) | refine aw_condj (by cbv) (fun h => ?_) (fun h => ?_)) <;> (try simp (disch := omega) only [hj, std, cmpI, cmpB, satB, Bool.not_eq_true, Bool.not_eq_false, decide_eq_true_eq, decide_eq_false_iff_not, beq_iff_eq, bne_iff_ne, bne_eq_false_iff_eq, beq_eq_false_iff_ne, ne_eq, reduceCtorEq, not_true_eq_false, not_false_eq_true, pl0, if_true, cmpS_eq, cmpS_neq, Bool.not_eq_eq_eq_not, Bool.not_true, Bool.not_false, Bool.not_eq_true', add64, sub64] at h) <;> (try (exfalso; omega))) | (with_reducible refine tr_alt (fun h => ?_) ?_ <;> (try (exfalso; omega))) | (with_reducible refine tr_ob ?_ ?_) | (with_reducible refine tr_done ?_) | (refine aw_tr hj tok (book1 x_isLetI x_isMoreI) (by cbv) ?_) | (refine aw_seq fun K hK => ?_) | (refine aw_tr1 hj tok (book1 x_isLetI x_isMoreI) (by cbv) ?_) | (refine aw_skip ?_) | (refine aw_block ?_) | (refine aw_exit ?_) | (refine aw_ret ⟨.inr rfl, ret_okj hj (by cbv) ?_ ?_⟩) | (refine aw_ret ?_) | (with_reducible refine th_n ?_) | (with_reducible refine th_r ?_) | (with_reducible refine th_x ?_) | (with_reducible refine blk_n ?_) | (with_reducible refine blk_r ?_) | (with_reducible refine blk_x ?_) | (with_reducible refine blk_y rfl ?_) | (refine ⟨.inr rfl, ret_okj hj (by cbv) ?_ ?_⟩) | (refine ⟨.inl rfl, ret_okj hj (by cbv) ?_ ?_⟩) | ((with_reducible refine ⟨(_, _, _, _, _, _, _), by cbv, ?_, ?_⟩)) | ((with_reducible refine ⟨(_, _, _, _, _, _), by cbv, ?_, ?_⟩)) | ((with_reducible refine ⟨(_, _, _, _, _), by cbv, ?_, ?_⟩)) | ((with_reducible refine ⟨(_, _, _, _), by cbv, ?_, ?_⟩)) | ((with_reducible refine ⟨(_, _, _), by cbv, ?_, ?_⟩)) | ((with_reducible refine ⟨(_, _), by cbv, ?_, ?_⟩)) | ((with_reducible refine ⟨_, by cbv, ?_, ?_⟩)) | (with_reducible apply_assumption -symm -exfalso only [*]))
  all_goals ((try subst y_isLetI); (try subst y_isMoreI); (try subst y_nameI); (try subst y_spanI))
  all_goals (try (repeat' first | with_reducible exact obl0 | with_reducible refine obl1 ?_ ?_))
  all_goals (try first | with_reducible exact True.intro | (refine ob_pc hj ?_; (try rw [hj]); first | exact c_more12 _) | (refine ob_pcn hj ?_; (try rw [hj]); first | exact c_more12 _) | ((first | refine ob_le hj ?_ | refine ob_lei hj ?_ | refine ob_inb hj ?_ | refine ob_pos hj ?_ | refine ob_ne0 hj ?_ | refine ob_eqb hj ?_); (first | rfl | first | omega | (simp only [hj, std]; split <;> omega) | (simp (disch := omega) only [hj, std, cmpI, cmpB, satB, add64, sub64, ite0, pl0, pl2, pl3, sb0, if_true, if_false, eq_self] <;> omega) | (simp (disch := omega) [hj, std, cmpI, cmpB, satB, add64, sub64, ite0, pl0, pl2, pl3, sb0, if_true, if_false, eq_self] <;> omega))) | ((have hi := ‹i < (s.size : Int)›; have hm := ‹isMoreI _ = false›; exact ret1_b (name_no3 i1 hi i3 hm))) | ((have hi := ‹¬ i < (s.size : Int)›; have hl := ‹isLetI _ = true›; exact ret1_b (name_ok i1 hi i2 i3 hl (by omega) (by omega)))) | ((have hi := ‹i < (s.size : Int)›; have hm := ‹isMoreI _ = true›; simp (disch := omega) only [hj, std, add64]; first | omega | exact ⟨by omega, by omega, (spanI_step i1 hi hm).trans i3⟩)))
theorem pc_Term12 (s : ByteArray) (hs : s.size < 4611686018427387904) : PC Try.prog T 40 [.v false [vS s]] (ret1 (.st (vB (termI s)))) [] := by
  refine pc_of tok Try.func40 rfl (by rfl) ?_
  obtain ⟨j, hj⟩ : ∃ j : J, j = std Try.prog T := ⟨_, rfl⟩
  have hm : Try.prog.follows .mixedOrders = true := by kernel_rfl
  generalize y_isLetI : @isLetI = x_isLetI at *
  generalize y_isMoreI : @isMoreI = x_isMoreI at *
  generalize y_termI : @termI = x_termI at *
  generalize y_spanI : @spanI = x_spanI at *
  generalize y_isSpelI : @isSpelI = x_isSpelI at *
  (repeat' first | ((first | with_reducible refine tr_cut (fun h => ?_) (fun h => ?_) | refine aw_condj (by cbv) (fun h => ?_) (fun h => ?_)) <;> (try simp (disch := omega) only [hj, std, cmpI, cmpB, satB, Bool.not_eq_true, Bool.not_eq_false, decide_eq_true_eq, decide_eq_false_iff_not, beq_iff_eq, bne_iff_ne, bne_eq_false_iff_eq, beq_eq_false_iff_ne, ne_eq, reduceCtorEq, not_true_eq_false, not_false_eq_true, pl0, if_true, cmpS_eq, cmpS_neq, Bool.not_eq_eq_eq_not, Bool.not_true, Bool.not_false, Bool.not_eq_true', add64, sub64] at h) <;> (try (exfalso; omega))) | (with_reducible refine tr_alt (fun h => ?_) ?_ <;> (try (exfalso; omega))) | (with_reducible refine tr_ob ?_ ?_) | (with_reducible refine tr_done ?_) | (refine aw_tr hj tok (book1 x_isLetI x_isMoreI) (by cbv) ?_) | (refine aw_seq fun K hK => ?_) | (refine aw_tr1 hj tok (book1 x_isLetI x_isMoreI) (by cbv) ?_) | (refine aw_skip ?_) | (refine aw_block ?_) | (refine aw_exit ?_) | (refine aw_ret ⟨.inr rfl, ret_okj hj (by cbv) ?_ ?_⟩) | (refine aw_ret ?_) | (with_reducible refine th_n ?_) | (with_reducible refine th_r ?_) | (with_reducible refine th_x ?_) | (with_reducible refine blk_n ?_) | (with_reducible refine blk_r ?_) | (with_reducible refine blk_x ?_) | (with_reducible refine blk_y rfl ?_) | (refine ⟨.inr rfl, ret_okj hj (by cbv) ?_ ?_⟩) | (refine ⟨.inl rfl, ret_okj hj (by cbv) ?_ ?_⟩) | ((with_reducible refine ⟨(_, _, _, _, _, _, _), by cbv, ?_, ?_⟩)) | ((with_reducible refine ⟨(_, _, _, _, _, _), by cbv, ?_, ?_⟩)) | ((with_reducible refine ⟨(_, _, _, _, _), by cbv, ?_, ?_⟩)) | ((with_reducible refine ⟨(_, _, _, _), by cbv, ?_, ?_⟩)) | ((with_reducible refine ⟨(_, _, _), by cbv, ?_, ?_⟩)) | ((with_reducible refine ⟨(_, _), by cbv, ?_, ?_⟩)) | ((with_reducible refine ⟨_, by cbv, ?_, ?_⟩)) | (with_reducible apply_assumption -symm -exfalso only [*]))
  all_goals ((try subst y_isLetI); (try subst y_isMoreI); (try subst y_termI); (try subst y_spanI); (try subst y_isSpelI))
  all_goals (try (repeat' first | with_reducible exact obl0 | with_reducible refine obl1 ?_ ?_))
  all_goals (try first | with_reducible exact True.intro | ((first | refine ob_le hj ?_ | refine ob_lei hj ?_ | refine ob_inb hj ?_ | refine ob_pos hj ?_ | refine ob_ne0 hj ?_ | refine ob_eqb hj ?_); (first | rfl | first | omega | (simp only [hj, std]; split <;> omega) | (simp (disch := omega) only [hj, std, cmpI, cmpB, satB, add64, sub64, ite0, pl0, pl2, pl3, sb0, if_true, if_false, eq_self] <;> omega) | (simp (disch := omega) [hj, std, cmpI, cmpB, satB, add64, sub64, ite0, pl0, pl2, pl3, sb0, if_true, if_false, eq_self] <;> omega))) | ((refine ret1_b (term_no1 ?_); omega)))
  refine aw_lpj hj [(0, .keep), (3, .keep)] [] (fun i : Int => stOf 40 [(0, .one (.c (vS s))), (3, .one (.c (vI i)))] []) (fun i => s.size - i.toNat) (fun i => 0 ≤ i ∧ i ≤ s.size ∧ spanI isSpelI s i = spanI isSpelI s 0) 0 (by generalize @isLetI = x_isLetI; generalize @isMoreI = x_isMoreI; generalize @termI = x_termI; generalize @spanI = x_spanI; generalize @isSpelI = x_isSpelI; cbv) ⟨by omega, by omega, rfl⟩ fun i ⟨i1, i2, i3⟩ => ?_
  generalize y_isLetI : @isLetI = x_isLetI at *
  generalize y_isMoreI : @isMoreI = x_isMoreI at *
  generalize y_termI : @termI = x_termI at *
  generalize y_spanI : @spanI = x_spanI at *
  generalize y_isSpelI : @isSpelI = x_isSpelI at *
  (repeat' first | ((first | with_reducible refine tr_cut (fun h => ?_) (fun h => ?_) | refine aw_condj (by cbv) (fun h => ?_) (fun h => ?_)) <;> (try simp (disch := omega) only [hj, std, cmpI, cmpB, satB, Bool.not_eq_true, Bool.not_eq_false, decide_eq_true_eq, decide_eq_false_iff_not, beq_iff_eq, bne_iff_ne, bne_eq_false_iff_eq, beq_eq_false_iff_ne, ne_eq, reduceCtorEq, not_true_eq_false, not_false_eq_true, pl0, if_true, cmpS_eq, cmpS_neq, Bool.not_eq_eq_eq_not, Bool.not_true, Bool.not_false, Bool.not_eq_true', add64, sub64] at h) <;> (try (exfalso; omega))) | (with_reducible refine tr_alt (fun h => ?_) ?_ <;> (try (exfalso; omega))) | (with_reducible refine tr_ob ?_ ?_) | (with_reducible refine tr_done ?_) | (refine aw_tr hj tok (book1 x_isLetI x_isMoreI) (by cbv) ?_) | (refine aw_seq fun K hK => ?_) | (refine aw_tr1 hj tok (book1 x_isLetI x_isMoreI) (by cbv) ?_) | (refine aw_skip ?_) | (refine aw_block ?_) | (refine aw_exit ?_) | (refine aw_ret ⟨.inr rfl, ret_okj hj (by cbv) ?_ ?_⟩) | (refine aw_ret ?_) | (with_reducible refine th_n ?_) | (with_reducible refine th_r ?_) | (with_reducible refine th_x ?_) | (with_reducible refine blk_n ?_) | (with_reducible refine blk_r ?_) | (with_reducible refine blk_x ?_) | (with_reducible refine blk_y rfl ?_) | (refine ⟨.inr rfl, ret_okj hj (by cbv) ?_ ?_⟩) | (refine ⟨.inl rfl, ret_okj hj (by cbv) ?_ ?_⟩) | ((with_reducible refine ⟨(_, _, _, _, _, _, _), by cbv, ?_, ?_⟩)) | ((with_reducible refine ⟨(_, _, _, _, _, _), by cbv, ?_, ?_⟩)) | ((with_reducible refine ⟨(_, _, _, _, _), by cbv, ?_, ?_⟩)) | ((with_reducible refine ⟨(_, _, _, _), by cbv, ?_, ?_⟩)) | ((with_reducible refine ⟨(_, _, _), by cbv, ?_, ?_⟩)) | ((with_reducible refine ⟨(_, _), by cbv, ?_, ?_⟩)) | ((with_reducible refine ⟨_, by cbv, ?_, ?_⟩)) | (with_reducible apply_assumption -symm -exfalso only [*]))
  all_goals ((try subst y_isLetI); (try subst y_isMoreI); (try subst y_termI); (try subst y_spanI); (try subst y_isSpelI))
  all_goals (try (repeat' first | with_reducible exact obl0 | with_reducible refine obl1 ?_ ?_))
  all_goals (try first | with_reducible exact True.intro | ((first | refine ob_le hj ?_ | refine ob_lei hj ?_ | refine ob_inb hj ?_ | refine ob_pos hj ?_ | refine ob_ne0 hj ?_ | refine ob_eqb hj ?_); (first | rfl | first | omega | (simp only [hj, std]; split <;> omega) | (simp (disch := omega) only [hj, std, cmpI, cmpB, satB, add64, sub64, ite0, pl0, pl2, pl3, sb0, if_true, if_false, eq_self] <;> omega) | (simp (disch := omega) [hj, std, cmpI, cmpB, satB, add64, sub64, ite0, pl0, pl2, pl3, sb0, if_true, if_false, eq_self] <;> omega))) | ((have hi := ‹i < (s.size : Int)›; refine ret1_b (term_no3 i1 hi i3 ?_); refine decide_eq_false ?_; omega)) | ((have hi := ‹¬ i < (s.size : Int)›; exact ret1_b (term_ok i1 hi i2 i3 (by omega) (by omega)))) | ((have hi := ‹i < (s.size : Int)›; simp (disch := omega) only [hj, std, add64]; first | omega | (have hm : isSpelI (bt s i.toNat) = true := decide_eq_true (by omega); exact ⟨by omega, by omega, (spanI_step i1 hi hm).trans i3⟩))))
theorem c_sized (s : ByteArray) : pc 72 [.v false [vS s]] (ret1 (.st (vB (sizedI s)))) := by
  refine ⟨enters Try.func72 (by kernel_rfl) (by kernel_rfl), pc_of tok Try.func72 rfl (by rfl) ?_⟩
  obtain ⟨j, hj⟩ : ∃ j : J, j = std Try.prog T := ⟨_, rfl⟩
  have hm : Try.prog.follows .mixedOrders = true := by kernel_rfl
  generalize y_sizedI : @sizedI = x_sizedI at *
  (repeat' first | ((first | with_reducible refine tr_cut (fun h => ?_) (fun h => ?_) | refine aw_condj (by cbv) (fun h => ?_) (fun h => ?_)) <;> (try simp (disch := omega) only [hj, std, cmpI, cmpB, satB, Bool.not_eq_true, Bool.not_eq_false, decide_eq_true_eq, decide_eq_false_iff_not, beq_iff_eq, bne_iff_ne, bne_eq_false_iff_eq, beq_eq_false_iff_ne, ne_eq, reduceCtorEq, not_true_eq_false, not_false_eq_true, pl0, if_true, cmpS_eq, cmpS_neq, Bool.not_eq_eq_eq_not, Bool.not_true, Bool.not_false, Bool.not_eq_true', add64, sub64] at h) <;> (try (exfalso; omega))) | (with_reducible refine tr_alt (fun h => ?_) ?_ <;> (try (exfalso; omega))) | (with_reducible refine tr_ob ?_ ?_) | (with_reducible refine tr_done ?_) | (refine aw_tr hj tok book0 (by cbv) ?_) | (refine aw_seq fun K hK => ?_) | (refine aw_tr1 hj tok book0 (by cbv) ?_) | (refine aw_skip ?_) | (refine aw_block ?_) | (refine aw_exit ?_) | (refine aw_ret ⟨.inr rfl, ret_okj hj (by cbv) ?_ ?_⟩) | (refine aw_ret ?_) | (with_reducible refine th_n ?_) | (with_reducible refine th_r ?_) | (with_reducible refine th_x ?_) | (with_reducible refine blk_n ?_) | (with_reducible refine blk_r ?_) | (with_reducible refine blk_x ?_) | (with_reducible refine blk_y rfl ?_) | (refine ⟨.inr rfl, ret_okj hj (by cbv) ?_ ?_⟩) | (refine ⟨.inl rfl, ret_okj hj (by cbv) ?_ ?_⟩) | ((with_reducible refine ⟨(_, _, _, _, _, _, _), by cbv, ?_, ?_⟩)) | ((with_reducible refine ⟨(_, _, _, _, _, _), by cbv, ?_, ?_⟩)) | ((with_reducible refine ⟨(_, _, _, _, _), by cbv, ?_, ?_⟩)) | ((with_reducible refine ⟨(_, _, _, _), by cbv, ?_, ?_⟩)) | ((with_reducible refine ⟨(_, _, _), by cbv, ?_, ?_⟩)) | ((with_reducible refine ⟨(_, _), by cbv, ?_, ?_⟩)) | ((with_reducible refine ⟨_, by cbv, ?_, ?_⟩)) | (with_reducible apply_assumption -symm -exfalso only [*]))
  all_goals ((try subst y_sizedI))
  all_goals (try (repeat' first | with_reducible exact obl0 | with_reducible refine obl1 ?_ ?_))
  all_goals (try first | with_reducible exact True.intro | ((first | refine ob_le hj ?_ | refine ob_lei hj ?_ | refine ob_inb hj ?_ | refine ob_pos hj ?_ | refine ob_ne0 hj ?_ | refine ob_eqb hj ?_); (first | rfl | first | omega | (simp only [hj, std]; split <;> omega) | (simp (disch := omega) only [hj, std, cmpI, cmpB, satB, add64, sub64, ite0, pl0, pl2, pl3, sb0, if_true, if_false, eq_self] <;> omega) | (simp (disch := omega) [hj, std, cmpI, cmpB, satB, add64, sub64, ite0, pl0, pl2, pl3, sb0, if_true, if_false, eq_self] <;> omega))) | ((refine ret1_b ?_; simp only [hj, std, cmpI, sizedI]; rw [Bool.eq_iff_iff]; simp <;> omega)))
def book7 (x_sizedI : ByteArray → Bool) (x_isLetI : Int → Bool) (x_isMoreI : Int → Bool) (x_spanI : (Int → Bool) → ByteArray → Int → Int) (x_isSpelI : Int → Bool) : Book := fun f xs => match f, xs with
  | 72, [.v false [.val (.string s)]] => some (ret1 (.st (vB (x_sizedI s))))
  | 73, [.v false [.val (.int .u8 n)]] => some (ret1 (.st (vB (x_isLetI n))))
  | 74, [.v false [.val (.string s)], .fn 75] => some (ret1 (.st (vI (x_spanI x_isMoreI s 0))))
  | 74, [.v false [.val (.string s)], .fn 76] => some (ret1 (.st (vI (x_spanI x_isSpelI s 0))))
  | _, _ => none
theorem pc_IsName (s : ByteArray) (hs : s.size < 4611686018427387904) : PC Try.prog T 50 [.v false [vS s]] (ret1 (.st (vB (nameI s)))) [] := by
  refine pc_of tok Try.func50 rfl (by rfl) ?_
  obtain ⟨j, hj⟩ : ∃ j : J, j = std Try.prog T := ⟨_, rfl⟩
  have hm : Try.prog.follows .mixedOrders = true := by kernel_rfl
  generalize y_sizedI : @sizedI = x_sizedI at *
  generalize y_isLetI : @isLetI = x_isLetI at *
  generalize y_isMoreI : @isMoreI = x_isMoreI at *
  generalize y_spanI : @spanI = x_spanI at *
  generalize y_isSpelI : @isSpelI = x_isSpelI at *
  generalize y_nameI : @nameI = x_nameI at *
  (repeat' first | ((first | with_reducible refine tr_cut (fun h => ?_) (fun h => ?_) | refine aw_condj (by cbv) (fun h => ?_) (fun h => ?_)) <;> (try simp (disch := omega) only [hj, std, cmpI, cmpB, satB, Bool.not_eq_true, Bool.not_eq_false, decide_eq_true_eq, decide_eq_false_iff_not, beq_iff_eq, bne_iff_ne, bne_eq_false_iff_eq, beq_eq_false_iff_ne, ne_eq, reduceCtorEq, not_true_eq_false, not_false_eq_true, pl0, if_true, cmpS_eq, cmpS_neq, Bool.not_eq_eq_eq_not, Bool.not_true, Bool.not_false, Bool.not_eq_true', add64, sub64] at h) <;> (try (exfalso; omega))) | (with_reducible refine tr_alt (fun h => ?_) ?_ <;> (try (exfalso; omega))) | (with_reducible refine tr_ob ?_ ?_) | (with_reducible refine tr_done ?_) | (refine aw_tr hj tok (book7 x_sizedI x_isLetI x_isMoreI x_spanI x_isSpelI) (by cbv) ?_) | (refine aw_seq fun K hK => ?_) | (refine aw_tr1 hj tok (book7 x_sizedI x_isLetI x_isMoreI x_spanI x_isSpelI) (by cbv) ?_) | (refine aw_skip ?_) | (refine aw_block ?_) | (refine aw_exit ?_) | (refine aw_ret ⟨.inr rfl, ret_okj hj (by cbv) ?_ ?_⟩) | (refine aw_ret ?_) | (with_reducible refine th_n ?_) | (with_reducible refine th_r ?_) | (with_reducible refine th_x ?_) | (with_reducible refine blk_n ?_) | (with_reducible refine blk_r ?_) | (with_reducible refine blk_x ?_) | (with_reducible refine blk_y rfl ?_) | (refine ⟨.inr rfl, ret_okj hj (by cbv) ?_ ?_⟩) | (refine ⟨.inl rfl, ret_okj hj (by cbv) ?_ ?_⟩) | ((with_reducible refine ⟨(_, _, _, _, _, _, _), by cbv, ?_, ?_⟩)) | ((with_reducible refine ⟨(_, _, _, _, _, _), by cbv, ?_, ?_⟩)) | ((with_reducible refine ⟨(_, _, _, _, _), by cbv, ?_, ?_⟩)) | ((with_reducible refine ⟨(_, _, _, _), by cbv, ?_, ?_⟩)) | ((with_reducible refine ⟨(_, _, _), by cbv, ?_, ?_⟩)) | ((with_reducible refine ⟨(_, _), by cbv, ?_, ?_⟩)) | ((with_reducible refine ⟨_, by cbv, ?_, ?_⟩)) | (with_reducible apply_assumption -symm -exfalso only [*]))
  all_goals ((try subst y_sizedI); (try subst y_isLetI); (try subst y_isMoreI); (try subst y_spanI); (try subst y_isSpelI); (try subst y_nameI))
  all_goals (try (have hz := of_decide_eq_true ‹sizedI s = true›))
  all_goals (try (repeat' first | with_reducible exact obl0 | with_reducible refine obl1 ?_ ?_))
  all_goals (try first | with_reducible exact True.intro | (refine ob_pc hj ?_; (try rw [hj]); first | exact c_sized _ | exact c_letter _ | exact c_run hs c_goes | exact c_run hs c_spells) | (refine ob_pcn hj ?_; (try rw [hj]); first | exact c_sized _ | exact c_letter _ | exact c_run hs c_goes | exact c_run hs c_spells) | ((first | refine ob_le hj ?_ | refine ob_lei hj ?_ | refine ob_inb hj ?_ | refine ob_pos hj ?_ | refine ob_ne0 hj ?_ | refine ob_eqb hj ?_); (first | rfl | first | omega | (simp only [hj, std]; split <;> omega) | (simp (disch := omega) only [hj, std, cmpI, cmpB, satB, add64, sub64, ite0, pl0, pl2, pl3, sb0, if_true, if_false, eq_self] <;> omega) | (simp (disch := omega) [hj, std, cmpI, cmpB, satB, add64, sub64, ite0, pl0, pl2, pl3, sb0, if_true, if_false, eq_self] <;> omega))) | ((have hl := ‹sizedI s = false›; exact ret1_b (name_no1 (sized_no hl)))) | ((have hl := ‹isLetI _ = false›; exact ret1_b (name_no2 hl))) | ((have hl := ‹isLetI _ = true›; have h1 := ‹sizedI s = true›; rw [hj]; exact ret1_b (name_run h1 hl))))
theorem pc_IsTerm (s : ByteArray) (hs : s.size < 4611686018427387904) : PC Try.prog T 51 [.v false [vS s]] (ret1 (.st (vB (termI s)))) [] := by
  refine pc_of tok Try.func51 rfl (by rfl) ?_
  obtain ⟨j, hj⟩ : ∃ j : J, j = std Try.prog T := ⟨_, rfl⟩
  have hm : Try.prog.follows .mixedOrders = true := by kernel_rfl
  generalize y_sizedI : @sizedI = x_sizedI at *
  generalize y_isLetI : @isLetI = x_isLetI at *
  generalize y_isMoreI : @isMoreI = x_isMoreI at *
  generalize y_spanI : @spanI = x_spanI at *
  generalize y_isSpelI : @isSpelI = x_isSpelI at *
  generalize y_termI : @termI = x_termI at *
  (repeat' first | ((first | with_reducible refine tr_cut (fun h => ?_) (fun h => ?_) | refine aw_condj (by cbv) (fun h => ?_) (fun h => ?_)) <;> (try simp (disch := omega) only [hj, std, cmpI, cmpB, satB, Bool.not_eq_true, Bool.not_eq_false, decide_eq_true_eq, decide_eq_false_iff_not, beq_iff_eq, bne_iff_ne, bne_eq_false_iff_eq, beq_eq_false_iff_ne, ne_eq, reduceCtorEq, not_true_eq_false, not_false_eq_true, pl0, if_true, cmpS_eq, cmpS_neq, Bool.not_eq_eq_eq_not, Bool.not_true, Bool.not_false, Bool.not_eq_true', add64, sub64] at h) <;> (try (exfalso; omega))) | (with_reducible refine tr_alt (fun h => ?_) ?_ <;> (try (exfalso; omega))) | (with_reducible refine tr_ob ?_ ?_) | (with_reducible refine tr_done ?_) | (refine aw_tr hj tok (book7 x_sizedI x_isLetI x_isMoreI x_spanI x_isSpelI) (by cbv) ?_) | (refine aw_seq fun K hK => ?_) | (refine aw_tr1 hj tok (book7 x_sizedI x_isLetI x_isMoreI x_spanI x_isSpelI) (by cbv) ?_) | (refine aw_skip ?_) | (refine aw_block ?_) | (refine aw_exit ?_) | (refine aw_ret ⟨.inr rfl, ret_okj hj (by cbv) ?_ ?_⟩) | (refine aw_ret ?_) | (with_reducible refine th_n ?_) | (with_reducible refine th_r ?_) | (with_reducible refine th_x ?_) | (with_reducible refine blk_n ?_) | (with_reducible refine blk_r ?_) | (with_reducible refine blk_x ?_) | (with_reducible refine blk_y rfl ?_) | (refine ⟨.inr rfl, ret_okj hj (by cbv) ?_ ?_⟩) | (refine ⟨.inl rfl, ret_okj hj (by cbv) ?_ ?_⟩) | ((with_reducible refine ⟨(_, _, _, _, _, _, _), by cbv, ?_, ?_⟩)) | ((with_reducible refine ⟨(_, _, _, _, _, _), by cbv, ?_, ?_⟩)) | ((with_reducible refine ⟨(_, _, _, _, _), by cbv, ?_, ?_⟩)) | ((with_reducible refine ⟨(_, _, _, _), by cbv, ?_, ?_⟩)) | ((with_reducible refine ⟨(_, _, _), by cbv, ?_, ?_⟩)) | ((with_reducible refine ⟨(_, _), by cbv, ?_, ?_⟩)) | ((with_reducible refine ⟨_, by cbv, ?_, ?_⟩)) | (with_reducible apply_assumption -symm -exfalso only [*]))
  all_goals ((try subst y_sizedI); (try subst y_isLetI); (try subst y_isMoreI); (try subst y_spanI); (try subst y_isSpelI); (try subst y_termI))
  all_goals (try (repeat' first | with_reducible exact obl0 | with_reducible refine obl1 ?_ ?_))
  all_goals (try first | with_reducible exact True.intro | (refine ob_pc hj ?_; (try rw [hj]); first | exact c_sized _ | exact c_letter _ | exact c_run hs c_goes | exact c_run hs c_spells) | (refine ob_pcn hj ?_; (try rw [hj]); first | exact c_sized _ | exact c_letter _ | exact c_run hs c_goes | exact c_run hs c_spells) | ((first | refine ob_le hj ?_ | refine ob_lei hj ?_ | refine ob_inb hj ?_ | refine ob_pos hj ?_ | refine ob_ne0 hj ?_ | refine ob_eqb hj ?_); (first | rfl | first | omega | (simp only [hj, std]; split <;> omega) | (simp (disch := omega) only [hj, std, cmpI, cmpB, satB, add64, sub64, ite0, pl0, pl2, pl3, sb0, if_true, if_false, eq_self] <;> omega) | (simp (disch := omega) [hj, std, cmpI, cmpB, satB, add64, sub64, ite0, pl0, pl2, pl3, sb0, if_true, if_false, eq_self] <;> omega))) | ((have hl := ‹sizedI s = false›; exact ret1_b (term_no1 (sized_no hl)))) | ((have h1 := ‹sizedI s = true›; rw [hj]; exact ret1_b (term_run h1))))
theorem c_Name12 {s : ByteArray} (hs : s.size ≤ 1000000) : pc 38 [.v false [vS s]] (ret1 (.st (vB (nameI s)))) := ⟨enters Try.func38 (by kernel_rfl) (by kernel_rfl), pc_Name12 s (by omega)⟩
theorem c_Term12 {s : ByteArray} (hs : s.size ≤ 1000000) : pc 40 [.v false [vS s]] (ret1 (.st (vB (termI s)))) := ⟨enters Try.func40 (by kernel_rfl) (by kernel_rfl), pc_Term12 s (by omega)⟩
theorem c_IsName {s : ByteArray} (hs : s.size ≤ 1000000) : pc 50 [.v false [vS s]] (ret1 (.st (vB (nameI s)))) := ⟨enters Try.func50 (by kernel_rfl) (by kernel_rfl), pc_IsName s (by omega)⟩
theorem c_IsTerm {s : ByteArray} (hs : s.size ≤ 1000000) : pc 51 [.v false [vS s]] (ret1 (.st (vB (termI s)))) := ⟨enters Try.func51 (by kernel_rfl) (by kernel_rfl), pc_IsTerm s (by omega)⟩
end Go.Proofs.Ytdmdcmhgfgookaa.A

/- Grammars: places in lists; lists alike; what the reference, layer 14, looks at. -/
set_option linter.unusedSimpArgs false
set_option linter.unusedVariables false
set_option maxRecDepth 100000
set_option maxHeartbeats 4000000
namespace Go.Proofs.Ytdmdcmhgfgookaa.A
open Go
def sameI (l m : List Int) : Bool := decide (l = m)
theorem iAt_mem (l : List Int) (i : Int) (h0 : 0 ≤ i) (h : i < nI l) : iAt l i.toNat ∈ l := by
  have hn := nI_eq l
  exact getD_mem _ (by omega)
theorem ext_iAt {l m : List Int} (h : nI l = nI m) (k : ∀ n : Nat, n < nI l → iAt l n = iAt m n) : l = m := by
  have h1 := nI_eq l; have h2 := nI_eq m
  apply List.ext_getElem (by omega)
  intro i a b
  have := k i (by omega)
  rw [iAt, iAt, List.getD_eq_getElem?_getD, List.getD_eq_getElem?_getD, List.getElem?_eq_getElem a, List.getElem?_eq_getElem b] at this
  exact this
theorem sameI_yes {l m : List Int} (h : nI l = nI m) (k : ∀ n : Nat, n < nI l → iAt l n = iAt m n) : sameI l m = true := by unfold sameI; rw [decide_eq_true_eq]; exact ext_iAt h k
theorem sameI_no {l m : List Int} (h : nI l ≠ nI m ∨ ∃ n : Nat, iAt l n ≠ iAt m n) : sameI l m = false := by
  unfold sameI; rw [decide_eq_false_iff_not]; rintro rfl
  rcases h with h | ⟨n, h⟩
  · exact h rfl
  · exact h rfl
/-- is a grammar small ? -/
def fewG (ns ts : List ByteArray) (rs : List Rl) : Int := if nS ns ≤ 12 ∧ nS ts ≤ 12 ∧ nR rs ≤ 40 ∧ (∀ r ∈ rs, nI r.2 ≤ 20) ∧ (∀ s ∈ ns, s.size ≤ 40) ∧ ∀ s ∈ ts, s.size ≤ 40 then 1 else 0
theorem fewG_yes {ns ts : List ByteArray} {rs : List Rl} (h : ¬ fewG ns ts rs = 0) : nS ns ≤ 12 ∧ nS ts ≤ 12 ∧ nR rs ≤ 40 ∧ (∀ r ∈ rs, nI r.2 ≤ 20) ∧ (∀ s ∈ ns, s.size ≤ 40) ∧ ∀ s ∈ ts, s.size ≤ 40 := by
  unfold fewG at h
  split at h
  · assumption
  · exact absurd rfl h
theorem fewG_no1 {ns ts : List ByteArray} {rs : List Rl} (h : ¬ (nS ns ≤ 12 ∧ nS ts ≤ 12 ∧ nR rs ≤ 40)) : fewG ns ts rs = 0 := if_neg fun hh => h ⟨hh.1, hh.2.1, hh.2.2.1⟩
theorem rAt_mem (l : List Rl) (i : Int) (h0 : 0 ≤ i) (h : i < nR l) : rAt l i.toNat ∈ l := by
  have hn := nR_eq l
  exact getD_mem _ (by omega)
theorem mem_rAt {l : List Rl} {r : Rl} (h : r ∈ l) : ∃ n : Nat, n < nR l ∧ rAt l n = r := by
  obtain ⟨n, hn, rfl⟩ := List.mem_iff_getElem.1 h
  exact ⟨n, by rw [nR_eq]; exact hn, by rw [rAt, List.getD_eq_getElem?_getD, List.getElem?_eq_getElem hn]; rfl⟩
theorem mem_sAt {l : List ByteArray} {r : ByteArray} (h : r ∈ l) : ∃ n : Nat, n < nS l ∧ sAt l n = r := by
  obtain ⟨n, hn, rfl⟩ := List.mem_iff_getElem.1 h
  exact ⟨n, by rw [nS_eq]; exact hn, by rw [sAt, List.getD_eq_getElem?_getD, List.getElem?_eq_getElem hn]; rfl⟩
theorem mem_iAt {l : List Int} {r : Int} (h : r ∈ l) : ∃ n : Nat, n < nI l ∧ iAt l n = r := by
  obtain ⟨n, hn, rfl⟩ := List.mem_iff_getElem.1 h
  exact ⟨n, by rw [nI_eq]; exact hn, by rw [iAt, List.getD_eq_getElem?_getD, List.getElem?_eq_getElem hn]; rfl⟩
theorem fewG_no2 {ns ts : List ByteArray} {rs : List Rl} (i : Int) (h0 : 0 ≤ i) (hi : i < nR rs) (h : ¬ (nI (rAt rs i.toNat).2 : Int) ≤ 20) : fewG ns ts rs = 0 := if_neg fun hh => h (by have := hh.2.2.2.1 _ (rAt_mem rs i h0 hi); omega)
theorem fewG_no3 {ns ts : List ByteArray} {rs : List Rl} (i : Int) (h0 : 0 ≤ i) (hi : i < nS ns) (h : ¬ ((sAt ns i.toNat).size : Int) ≤ 40) : fewG ns ts rs = 0 := if_neg fun hh => h (by have := hh.2.2.2.2.1 _ (sAt_mem ns i h0 hi); omega)
theorem fewG_no4 {ns ts : List ByteArray} {rs : List Rl} (i : Int) (h0 : 0 ≤ i) (hi : i < nS ts) (h : ¬ ((sAt ts i.toNat).size : Int) ≤ 40) : fewG ns ts rs = 0 := if_neg fun hh => h (by have := hh.2.2.2.2.2 _ (sAt_mem ts i h0 hi); omega)
theorem fewG_ok {ns ts : List ByteArray} {rs : List Rl} (h1 : nS ns ≤ 12) (h2 : nS ts ≤ 12) (h3 : nR rs ≤ 40) (h4 : ∀ n : Nat, n < nR rs → nI (rAt rs n).2 ≤ 20) (h5 : ∀ n : Nat, n < nS ns → (sAt ns n).size ≤ 40) (h6 : ∀ n : Nat, n < nS ts → (sAt ts n).size ≤ 40) : fewG ns ts rs = 1 :=
  if_pos ⟨h1, h2, h3, fun r hr => by obtain ⟨n, hn, rfl⟩ := mem_rAt hr; exact h4 n hn, fun r hr => by obtain ⟨n, hn, rfl⟩ := mem_sAt hr; exact h5 n hn, fun r hr => by obtain ⟨n, hn, rfl⟩ := mem_sAt hr; exact h6 n hn⟩
theorem pc_Find (l : List ByteArray) (w : ByteArray) (hl : nS l < 4611686018427387904) : PC Try.prog T 39 [.v false [(C.sl (nS l) (sC l))], .v false [vS w]] (ret1 (.st (vI (idxS l w)))) [] := by
  refine pc_of tok Try.func39 rfl (by rfl) ?_
  obtain ⟨j, hj⟩ : ∃ j : J, j = std Try.prog T := ⟨_, rfl⟩
  have hm : Try.prog.follows .mixedOrders = true := by kernel_rfl
  generalize y_sC : @sC = x_sC at *
  generalize y_nS : @nS = x_nS at *
  generalize y_idxS : @idxS = x_idxS at *
  (repeat' first | ((first | with_reducible refine tr_cut (fun h => ?_) (fun h => ?_) | refine aw_condj (by cbv) (fun h => ?_) (fun h => ?_)) <;> (try simp (disch := omega) only [hj, std, cmpI, cmpB, satB, Bool.not_eq_true, Bool.not_eq_false, decide_eq_true_eq, decide_eq_false_iff_not, beq_iff_eq, bne_iff_ne, bne_eq_false_iff_eq, beq_eq_false_iff_ne, ne_eq, reduceCtorEq, not_true_eq_false, not_false_eq_true, pl0, if_true, cmpS_eq, cmpS_neq, Bool.not_eq_eq_eq_not, Bool.not_true, Bool.not_false, Bool.not_eq_true', add64, sub64] at h) <;> (try (exfalso; omega))) | (with_reducible refine tr_alt (fun h => ?_) ?_ <;> (try (exfalso; omega))) | (with_reducible refine tr_ob ?_ ?_) | (with_reducible refine tr_done ?_) | (refine aw_tr hj tok book0 (by cbv) ?_) | (refine aw_seq fun K hK => ?_) | (refine aw_tr1 hj tok book0 (by cbv) ?_) | (refine aw_skip ?_) | (refine aw_block ?_) | (refine aw_exit ?_) | (refine aw_ret ⟨.inr rfl, ret_okj hj (by cbv) ?_ ?_⟩) | (refine aw_ret ?_) | (with_reducible refine th_n ?_) | (with_reducible refine th_r ?_) | (with_reducible refine th_x ?_) | (with_reducible refine blk_n ?_) | (with_reducible refine blk_r ?_) | (with_reducible refine blk_x ?_) | (with_reducible refine blk_y rfl ?_) | (refine ⟨.inr rfl, ret_okj hj (by cbv) ?_ ?_⟩) | (refine ⟨.inl rfl, ret_okj hj (by cbv) ?_ ?_⟩) | ((with_reducible refine ⟨(_, _, _, _, _, _, _), by cbv, ?_, ?_⟩)) | ((with_reducible refine ⟨(_, _, _, _, _, _), by cbv, ?_, ?_⟩)) | ((with_reducible refine ⟨(_, _, _, _, _), by cbv, ?_, ?_⟩)) | ((with_reducible refine ⟨(_, _, _, _), by cbv, ?_, ?_⟩)) | ((with_reducible refine ⟨(_, _, _), by cbv, ?_, ?_⟩)) | ((with_reducible refine ⟨(_, _), by cbv, ?_, ?_⟩)) | ((with_reducible refine ⟨_, by cbv, ?_, ?_⟩)) | (with_reducible apply_assumption -symm -exfalso only [*]))
  all_goals ((try subst y_sC); (try subst y_nS); (try subst y_idxS))
  refine aw_lpj hj [(0, .keep), (1, .keep), (5, .keep)] [] (fun (i : Int) => stOf 19 [(0, .one (.c ((C.sl (nS l) (sC l))))), (1, .one (.c (vS w))), (5, .one (.c (vI i)))] []) (fun (i : Int) => nS l - i.toNat) (fun (i : Int) => 0 ≤ i ∧ i ≤ nS l ∧ idxS l w = idxGo w (l.drop i.toNat) i) (0) (by generalize @sC = x_sC; generalize @nS = x_nS; generalize @idxS = x_idxS; cbv) ?_ (fun i hI => ?_)
  · exact ⟨by omega, by omega, rfl⟩
  obtain ⟨i1, i2, i3⟩ := hI
  generalize y_sC : @sC = x_sC at *
  generalize y_nS : @nS = x_nS at *
  generalize y_idxS : @idxS = x_idxS at *
  (repeat' first | ((first | with_reducible refine tr_cut (fun h => ?_) (fun h => ?_) | refine aw_condj (by cbv) (fun h => ?_) (fun h => ?_)) <;> (try simp (disch := omega) only [hj, std, cmpI, cmpB, satB, Bool.not_eq_true, Bool.not_eq_false, decide_eq_true_eq, decide_eq_false_iff_not, beq_iff_eq, bne_iff_ne, bne_eq_false_iff_eq, beq_eq_false_iff_ne, ne_eq, reduceCtorEq, not_true_eq_false, not_false_eq_true, pl0, if_true, cmpS_eq, cmpS_neq, Bool.not_eq_eq_eq_not, Bool.not_true, Bool.not_false, Bool.not_eq_true', gs_sC, add64, sub64] at h) <;> (try (exfalso; omega))) | (with_reducible refine tr_alt (fun h => ?_) ?_ <;> (try (exfalso; omega))) | (with_reducible refine tr_ob ?_ ?_) | (with_reducible refine tr_done ?_) | (refine aw_tr hj tok book0 (by cbv) ?_) | (refine aw_seq fun K hK => ?_) | (refine aw_tr1 hj tok book0 (by cbv) ?_) | (refine aw_skip ?_) | (refine aw_block ?_) | (refine aw_exit ?_) | (refine aw_ret ⟨.inr rfl, ret_okj hj (by cbv) ?_ ?_⟩) | (refine aw_ret ?_) | (with_reducible refine th_n ?_) | (with_reducible refine th_r ?_) | (with_reducible refine th_x ?_) | (with_reducible refine blk_n ?_) | (with_reducible refine blk_r ?_) | (with_reducible refine blk_x ?_) | (with_reducible refine blk_y rfl ?_) | (refine ⟨.inr rfl, ret_okj hj (by cbv) ?_ ?_⟩) | (refine ⟨.inl rfl, ret_okj hj (by cbv) ?_ ?_⟩) | ((with_reducible refine ⟨(_, _, _, _, _, _, _), by cbv, ?_, ?_⟩)) | ((with_reducible refine ⟨(_, _, _, _, _, _), by cbv, ?_, ?_⟩)) | ((with_reducible refine ⟨(_, _, _, _, _), by cbv, ?_, ?_⟩)) | ((with_reducible refine ⟨(_, _, _, _), by cbv, ?_, ?_⟩)) | ((with_reducible refine ⟨(_, _, _), by cbv, ?_, ?_⟩)) | ((with_reducible refine ⟨(_, _), by cbv, ?_, ?_⟩)) | ((with_reducible refine ⟨_, by cbv, ?_, ?_⟩)) | (with_reducible apply_assumption -symm -exfalso only [*]))
  all_goals ((try subst y_sC); (try subst y_nS); (try subst y_idxS))
  all_goals (have nl := nS_eq l)
  all_goals (try have q := ‹gs (cellAt (sC l) _) = w›)
  all_goals (try have q := ‹¬ gs (cellAt (sC l) _) = w›)
  all_goals (try rw [gs_sC] at q)
  all_goals (try (repeat' first | with_reducible exact obl0 | with_reducible refine obl1 ?_ ?_))
  all_goals (try first | with_reducible exact True.intro | ((first | refine ob_le hj ?_ | refine ob_lei hj ?_ | refine ob_inb hj ?_ | refine ob_pos hj ?_ | refine ob_ne0 hj ?_ | refine ob_eqb hj ?_); (first | rfl | first | omega | (simp only [hj, std]; split <;> omega) | (simp (disch := omega) only [hj, std, cmpI, cmpB, satB, add64, sub64, ite0, pl0, pl2, pl3, sb0, if_true, if_false, eq_self, sC_len] <;> omega) | (simp (disch := omega) [hj, std, cmpI, cmpB, satB, add64, sub64, ite0, pl0, pl2, pl3, sb0, if_true, if_false, eq_self, sC_len] <;> omega))) | ((refine ob_ok hj ?_; simp only [hj, std, ite0]; exact ok_sC (by omega))) | ((refine r1i ?_; rw [i3, drop_fin l i (by assumption)]; rfl)) | ((refine r1i ?_; rw [i3, drop_step l i i1 (by assumption), idxGo, if_pos q.symm])) | ((simp (disch := omega) only [hj, std, add64]; first | omega | (refine ⟨by omega, by omega, ?_⟩; rw [i3, drop_step l i i1 (by assumption), idxGo, if_neg (fun e => q e.symm)]))))
theorem pc_SameRight (l m : List Int) (hl : nI l < 4611686018427387904) (hm2 : nI m < 4611686018427387904) : PC Try.prog T 61 [.v false [(C.sl (nI l) (iC l))], .v false [(C.sl (nI m) (iC m))]] (ret1 (.st (vB (sameI l m)))) [] := by
  refine pc_of tok Try.func61 rfl (by rfl) ?_
  obtain ⟨j, hj⟩ : ∃ j : J, j = std Try.prog T := ⟨_, rfl⟩
  have hm : Try.prog.follows .mixedOrders = true := by kernel_rfl
  generalize y_sameI : @sameI = x_sameI at *
  generalize y_iC : @iC = x_iC at *
  generalize y_nI : @nI = x_nI at *
  (repeat' first | ((first | with_reducible refine tr_cut (fun h => ?_) (fun h => ?_) | refine aw_condj (by cbv) (fun h => ?_) (fun h => ?_)) <;> (try simp (disch := omega) only [hj, std, cmpI, cmpB, satB, Bool.not_eq_true, Bool.not_eq_false, decide_eq_true_eq, decide_eq_false_iff_not, beq_iff_eq, bne_iff_ne, bne_eq_false_iff_eq, beq_eq_false_iff_ne, ne_eq, reduceCtorEq, not_true_eq_false, not_false_eq_true, pl0, if_true, cmpS_eq, cmpS_neq, Bool.not_eq_eq_eq_not, Bool.not_true, Bool.not_false, Bool.not_eq_true', add64, sub64] at h) <;> (try (exfalso; omega))) | (with_reducible refine tr_alt (fun h => ?_) ?_ <;> (try (exfalso; omega))) | (with_reducible refine tr_ob ?_ ?_) | (with_reducible refine tr_done ?_) | (refine aw_tr hj tok book0 (by cbv) ?_) | (refine aw_seq fun K hK => ?_) | (refine aw_tr1 hj tok book0 (by cbv) ?_) | (refine aw_skip ?_) | (refine aw_block ?_) | (refine aw_exit ?_) | (refine aw_ret ⟨.inr rfl, ret_okj hj (by cbv) ?_ ?_⟩) | (refine aw_ret ?_) | (with_reducible refine th_n ?_) | (with_reducible refine th_r ?_) | (with_reducible refine th_x ?_) | (with_reducible refine blk_n ?_) | (with_reducible refine blk_r ?_) | (with_reducible refine blk_x ?_) | (with_reducible refine blk_y rfl ?_) | (refine ⟨.inr rfl, ret_okj hj (by cbv) ?_ ?_⟩) | (refine ⟨.inl rfl, ret_okj hj (by cbv) ?_ ?_⟩) | ((with_reducible refine ⟨(_, _, _, _, _, _, _), by cbv, ?_, ?_⟩)) | ((with_reducible refine ⟨(_, _, _, _, _, _), by cbv, ?_, ?_⟩)) | ((with_reducible refine ⟨(_, _, _, _, _), by cbv, ?_, ?_⟩)) | ((with_reducible refine ⟨(_, _, _, _), by cbv, ?_, ?_⟩)) | ((with_reducible refine ⟨(_, _, _), by cbv, ?_, ?_⟩)) | ((with_reducible refine ⟨(_, _), by cbv, ?_, ?_⟩)) | ((with_reducible refine ⟨_, by cbv, ?_, ?_⟩)) | (with_reducible apply_assumption -symm -exfalso only [*]))
  all_goals ((try subst y_sameI); (try subst y_iC); (try subst y_nI))
  all_goals (try (repeat' first | with_reducible exact obl0 | with_reducible refine obl1 ?_ ?_))
  all_goals (try first | with_reducible exact True.intro | ((first | refine ob_le hj ?_ | refine ob_lei hj ?_ | refine ob_inb hj ?_ | refine ob_pos hj ?_ | refine ob_ne0 hj ?_ | refine ob_eqb hj ?_); (first | rfl | first | omega | (simp only [hj, std]; split <;> omega) | (simp (disch := omega) only [hj, std, cmpI, cmpB, satB, add64, sub64, ite0, pl0, pl2, pl3, sb0, if_true, if_false, eq_self] <;> omega) | (simp (disch := omega) [hj, std, cmpI, cmpB, satB, add64, sub64, ite0, pl0, pl2, pl3, sb0, if_true, if_false, eq_self] <;> omega))) | ((refine r1b ?_; exact sameI_no (.inl (by omega)))))
  refine aw_lpj hj [(0, .keep), (1, .keep), (5, .keep)] [] (fun (i : Int) => stOf 26 [(0, .one (.c ((C.sl (nI l) (iC l))))), (1, .one (.c ((C.sl (nI m) (iC m))))), (5, .one (.c (vI i)))] []) (fun (i : Int) => nI l - i.toNat) (fun (i : Int) => 0 ≤ i ∧ i ≤ nI l ∧ ∀ n : Nat, (n : Int) < i → iAt l n = iAt m n) (0) (by generalize @sameI = x_sameI; generalize @iC = x_iC; generalize @nI = x_nI; cbv) ?_ (fun i hI => ?_)
  · exact ⟨by omega, by omega, fun n h => by omega⟩
  obtain ⟨i1, i2, i3⟩ := hI
  generalize y_sameI : @sameI = x_sameI at *
  generalize y_iC : @iC = x_iC at *
  generalize y_nI : @nI = x_nI at *
  (repeat' first | ((first | with_reducible refine tr_cut (fun h => ?_) (fun h => ?_) | refine aw_condj (by cbv) (fun h => ?_) (fun h => ?_)) <;> (try simp (disch := omega) only [hj, std, cmpI, cmpB, satB, Bool.not_eq_true, Bool.not_eq_false, decide_eq_true_eq, decide_eq_false_iff_not, beq_iff_eq, bne_iff_ne, bne_eq_false_iff_eq, beq_eq_false_iff_ne, ne_eq, reduceCtorEq, not_true_eq_false, not_false_eq_true, pl0, if_true, cmpS_eq, cmpS_neq, Bool.not_eq_eq_eq_not, Bool.not_true, Bool.not_false, Bool.not_eq_true', gi_iC, add64, sub64] at h) <;> (try (exfalso; omega))) | (with_reducible refine tr_alt (fun h => ?_) ?_ <;> (try (exfalso; omega))) | (with_reducible refine tr_ob ?_ ?_) | (with_reducible refine tr_done ?_) | (refine aw_dr1 (id := 6) hj tok hm book0 true [(0, false), (1, false), (2, false), (3, false), (4, false), (5, true), (6, true), (7, true), (8, true)] (by kernel_rfl) (by cbv) ?_) | (refine aw_dr (id := 6) hj tok hm book0 true [(0, false), (1, false), (2, false), (3, false), (4, false), (5, true), (6, true), (7, true), (8, true)] (by kernel_rfl) (by cbv) ?_) | (refine aw_tr hj tok book0 (by cbv) ?_) | (refine aw_seq fun K hK => ?_) | (refine aw_tr1 hj tok book0 (by cbv) ?_) | (refine aw_skip ?_) | (refine aw_block ?_) | (refine aw_exit ?_) | (refine aw_ret ⟨.inr rfl, ret_okj hj (by cbv) ?_ ?_⟩) | (refine aw_ret ?_) | (with_reducible refine th_n ?_) | (with_reducible refine th_r ?_) | (with_reducible refine th_x ?_) | (with_reducible refine blk_n ?_) | (with_reducible refine blk_r ?_) | (with_reducible refine blk_x ?_) | (with_reducible refine blk_y rfl ?_) | (refine ⟨.inr rfl, ret_okj hj (by cbv) ?_ ?_⟩) | (refine ⟨.inl rfl, ret_okj hj (by cbv) ?_ ?_⟩) | ((with_reducible refine ⟨(_, _, _, _, _, _, _), by cbv, ?_, ?_⟩)) | ((with_reducible refine ⟨(_, _, _, _, _, _), by cbv, ?_, ?_⟩)) | ((with_reducible refine ⟨(_, _, _, _, _), by cbv, ?_, ?_⟩)) | ((with_reducible refine ⟨(_, _, _, _), by cbv, ?_, ?_⟩)) | ((with_reducible refine ⟨(_, _, _), by cbv, ?_, ?_⟩)) | ((with_reducible refine ⟨(_, _), by cbv, ?_, ?_⟩)) | ((with_reducible refine ⟨_, by cbv, ?_, ?_⟩)) | (with_reducible apply_assumption -symm -exfalso only [*]))
  all_goals ((try subst y_sameI); (try subst y_iC); (try subst y_nI))
  all_goals (have nl := nI_eq l; have nm := nI_eq m)
  all_goals (try have q := ‹gi (cellAt (iC l) _) = _›)
  all_goals (try have q := ‹¬ gi (cellAt (iC l) _) = _›)
  all_goals (try rw [gi_iC, gi_iC] at q)
  all_goals (try (repeat' first | with_reducible exact obl0 | with_reducible refine obl1 ?_ ?_))
  all_goals (try first | with_reducible exact True.intro | ((first | refine ob_le hj ?_ | refine ob_lei hj ?_ | refine ob_inb hj ?_ | refine ob_pos hj ?_ | refine ob_ne0 hj ?_ | refine ob_eqb hj ?_); (first | rfl | first | omega | (simp only [hj, std]; split <;> omega) | (simp (disch := omega) only [hj, std, cmpI, cmpB, satB, add64, sub64, ite0, pl0, pl2, pl3, sb0, if_true, if_false, eq_self, iC_len] <;> omega) | (simp (disch := omega) [hj, std, cmpI, cmpB, satB, add64, sub64, ite0, pl0, pl2, pl3, sb0, if_true, if_false, eq_self, iC_len] <;> omega))) | ((refine ob_ok hj ?_; simp only [hj, std, ite0]; exact ok_iC (by omega))) | ((refine r1b ?_; exact sameI_no (.inr ⟨_, q⟩))) | ((refine r1b ?_; exact sameI_yes (by omega) fun n hn => i3 n (by omega))) | ((simp (disch := omega) only [hj, std, add64]; first | omega | (refine ⟨by omega, by omega, fun n hn => ?_⟩; by_cases e : (n : Int) < i; exact i3 n e; obtain rfl : n = i.toNat := (by omega); exact q))))
theorem pc_EqualI (l m : List Int) (hl : nI l < 4611686018427387904) (hm2 : nI m < 4611686018427387904) : PC Try.prog T 85 [.v false [(C.sl (nI l) (iC l))], .v false [(C.sl (nI m) (iC m))]] (ret1 (.st (vB (sameI l m)))) [] := by
  refine pc_of tok Try.func85 rfl (by rfl) ?_
  obtain ⟨j, hj⟩ : ∃ j : J, j = std Try.prog T := ⟨_, rfl⟩
  have hm : Try.prog.follows .mixedOrders = true := by kernel_rfl
  generalize y_sameI : @sameI = x_sameI at *
  generalize y_iC : @iC = x_iC at *
  generalize y_nI : @nI = x_nI at *
  (repeat' first | ((first | with_reducible refine tr_cut (fun h => ?_) (fun h => ?_) | refine aw_condj (by cbv) (fun h => ?_) (fun h => ?_)) <;> (try simp (disch := omega) only [hj, std, cmpI, cmpB, satB, Bool.not_eq_true, Bool.not_eq_false, decide_eq_true_eq, decide_eq_false_iff_not, beq_iff_eq, bne_iff_ne, bne_eq_false_iff_eq, beq_eq_false_iff_ne, ne_eq, reduceCtorEq, not_true_eq_false, not_false_eq_true, pl0, if_true, cmpS_eq, cmpS_neq, Bool.not_eq_eq_eq_not, Bool.not_true, Bool.not_false, Bool.not_eq_true', add64, sub64] at h) <;> (try (exfalso; omega))) | (with_reducible refine tr_alt (fun h => ?_) ?_ <;> (try (exfalso; omega))) | (with_reducible refine tr_ob ?_ ?_) | (with_reducible refine tr_done ?_) | (refine aw_tr hj tok book0 (by cbv) ?_) | (refine aw_seq fun K hK => ?_) | (refine aw_tr1 hj tok book0 (by cbv) ?_) | (refine aw_skip ?_) | (refine aw_block ?_) | (refine aw_exit ?_) | (refine aw_ret ⟨.inr rfl, ret_okj hj (by cbv) ?_ ?_⟩) | (refine aw_ret ?_) | (with_reducible refine th_n ?_) | (with_reducible refine th_r ?_) | (with_reducible refine th_x ?_) | (with_reducible refine blk_n ?_) | (with_reducible refine blk_r ?_) | (with_reducible refine blk_x ?_) | (with_reducible refine blk_y rfl ?_) | (refine ⟨.inr rfl, ret_okj hj (by cbv) ?_ ?_⟩) | (refine ⟨.inl rfl, ret_okj hj (by cbv) ?_ ?_⟩) | ((with_reducible refine ⟨(_, _, _, _, _, _, _), by cbv, ?_, ?_⟩)) | ((with_reducible refine ⟨(_, _, _, _, _, _), by cbv, ?_, ?_⟩)) | ((with_reducible refine ⟨(_, _, _, _, _), by cbv, ?_, ?_⟩)) | ((with_reducible refine ⟨(_, _, _, _), by cbv, ?_, ?_⟩)) | ((with_reducible refine ⟨(_, _, _), by cbv, ?_, ?_⟩)) | ((with_reducible refine ⟨(_, _), by cbv, ?_, ?_⟩)) | ((with_reducible refine ⟨_, by cbv, ?_, ?_⟩)) | (with_reducible apply_assumption -symm -exfalso only [*]))
  all_goals ((try subst y_sameI); (try subst y_iC); (try subst y_nI))
  all_goals (try (repeat' first | with_reducible exact obl0 | with_reducible refine obl1 ?_ ?_))
  all_goals (try first | with_reducible exact True.intro | ((first | refine ob_le hj ?_ | refine ob_lei hj ?_ | refine ob_inb hj ?_ | refine ob_pos hj ?_ | refine ob_ne0 hj ?_ | refine ob_eqb hj ?_); (first | rfl | first | omega | (simp only [hj, std]; split <;> omega) | (simp (disch := omega) only [hj, std, cmpI, cmpB, satB, add64, sub64, ite0, pl0, pl2, pl3, sb0, if_true, if_false, eq_self] <;> omega) | (simp (disch := omega) [hj, std, cmpI, cmpB, satB, add64, sub64, ite0, pl0, pl2, pl3, sb0, if_true, if_false, eq_self] <;> omega))) | ((refine r1b ?_; exact sameI_no (.inl (by omega)))))
  refine aw_lpj hj [(0, .keep), (1, .keep), (12, .keep), (13, .keep)] [] (fun (i : Int) => stOf 26 [(0, .one (.c ((C.sl (nI l) (iC l))))), (1, .one (.c ((C.sl (nI m) (iC m))))), (12, .one (.c (vI (j.ofNat (nI l))))), (13, .one (.c (vI i)))] []) (fun (i : Int) => nI l - i.toNat) (fun (i : Int) => 0 ≤ i ∧ i ≤ nI l ∧ ∀ n : Nat, (n : Int) < i → iAt l n = iAt m n) (0) (by generalize @sameI = x_sameI; generalize @iC = x_iC; generalize @nI = x_nI; cbv) ?_ (fun i hI => ?_)
  · exact ⟨by omega, by omega, fun n h => by omega⟩
  obtain ⟨i1, i2, i3⟩ := hI
  generalize y_sameI : @sameI = x_sameI at *
  generalize y_iC : @iC = x_iC at *
  generalize y_nI : @nI = x_nI at *
  (repeat' first | ((first | with_reducible refine tr_cut (fun h => ?_) (fun h => ?_) | refine aw_condj (by cbv) (fun h => ?_) (fun h => ?_)) <;> (try simp (disch := omega) only [hj, std, cmpI, cmpB, satB, Bool.not_eq_true, Bool.not_eq_false, decide_eq_true_eq, decide_eq_false_iff_not, beq_iff_eq, bne_iff_ne, bne_eq_false_iff_eq, beq_eq_false_iff_ne, ne_eq, reduceCtorEq, not_true_eq_false, not_false_eq_true, pl0, if_true, cmpS_eq, cmpS_neq, Bool.not_eq_eq_eq_not, Bool.not_true, Bool.not_false, Bool.not_eq_true', gi_iC, add64, sub64] at h) <;> (try (exfalso; omega))) | (with_reducible refine tr_alt (fun h => ?_) ?_ <;> (try (exfalso; omega))) | (with_reducible refine tr_ob ?_ ?_) | (with_reducible refine tr_done ?_) | (refine aw_dr1 (id := 6) hj tok hm book0 true [(0, false), (1, false), (2, false), (3, false), (4, false), (5, true), (6, true), (7, true), (8, true)] (by kernel_rfl) (by cbv) ?_) | (refine aw_dr (id := 6) hj tok hm book0 true [(0, false), (1, false), (2, false), (3, false), (4, false), (5, true), (6, true), (7, true), (8, true)] (by kernel_rfl) (by cbv) ?_) | (refine aw_tr hj tok book0 (by cbv) ?_) | (refine aw_seq fun K hK => ?_) | (refine aw_tr1 hj tok book0 (by cbv) ?_) | (refine aw_skip ?_) | (refine aw_block ?_) | (refine aw_exit ?_) | (refine aw_ret ⟨.inr rfl, ret_okj hj (by cbv) ?_ ?_⟩) | (refine aw_ret ?_) | (with_reducible refine th_n ?_) | (with_reducible refine th_r ?_) | (with_reducible refine th_x ?_) | (with_reducible refine blk_n ?_) | (with_reducible refine blk_r ?_) | (with_reducible refine blk_x ?_) | (with_reducible refine blk_y rfl ?_) | (refine ⟨.inr rfl, ret_okj hj (by cbv) ?_ ?_⟩) | (refine ⟨.inl rfl, ret_okj hj (by cbv) ?_ ?_⟩) | ((with_reducible refine ⟨(_, _, _, _, _, _, _), by cbv, ?_, ?_⟩)) | ((with_reducible refine ⟨(_, _, _, _, _, _), by cbv, ?_, ?_⟩)) | ((with_reducible refine ⟨(_, _, _, _, _), by cbv, ?_, ?_⟩)) | ((with_reducible refine ⟨(_, _, _, _), by cbv, ?_, ?_⟩)) | ((with_reducible refine ⟨(_, _, _), by cbv, ?_, ?_⟩)) | ((with_reducible refine ⟨(_, _), by cbv, ?_, ?_⟩)) | ((with_reducible refine ⟨_, by cbv, ?_, ?_⟩)) | (with_reducible apply_assumption -symm -exfalso only [*]))
  all_goals ((try subst y_sameI); (try subst y_iC); (try subst y_nI))
  all_goals (have nl := nI_eq l; have nm := nI_eq m)
  all_goals (try have q := ‹gi (cellAt (iC l) _) = _›)
  all_goals (try have q := ‹¬ gi (cellAt (iC l) _) = _›)
  all_goals (try rw [gi_iC, gi_iC] at q)
  all_goals (try (repeat' first | with_reducible exact obl0 | with_reducible refine obl1 ?_ ?_))
  all_goals (try first | with_reducible exact True.intro | ((first | refine ob_le hj ?_ | refine ob_lei hj ?_ | refine ob_inb hj ?_ | refine ob_pos hj ?_ | refine ob_ne0 hj ?_ | refine ob_eqb hj ?_); (first | rfl | first | omega | (simp only [hj, std]; split <;> omega) | (simp (disch := omega) only [hj, std, cmpI, cmpB, satB, add64, sub64, ite0, pl0, pl2, pl3, sb0, if_true, if_false, eq_self, iC_len] <;> omega) | (simp (disch := omega) [hj, std, cmpI, cmpB, satB, add64, sub64, ite0, pl0, pl2, pl3, sb0, if_true, if_false, eq_self, iC_len] <;> omega))) | ((refine ob_ok hj ?_; simp only [hj, std, ite0]; exact ok_iC (by omega))) | ((refine r1b ?_; exact sameI_no (.inr ⟨_, q⟩))) | ((refine r1b ?_; exact sameI_yes (by omega) fun n hn => i3 n (by omega))) | ((simp (disch := omega) only [hj, std, add64]; first | omega | (refine ⟨by omega, by omega, fun n hn => ?_⟩; by_cases e : (n : Int) < i; exact i3 n e; obtain rfl : n = i.toNat := (by omega); exact q))))
theorem pc_Few (ns ts : List ByteArray) (rs : List Rl) (h1 : nS ns < 4611686018427387904) (h2 : nS ts < 4611686018427387904) (h3 : nR rs < 2305843009213693952) (h4 : ∀ r ∈ rs, nI r.2 < 4611686018427387904) (h5 : ∀ s ∈ ns, s.size < 4611686018427387904) (h6 : ∀ s ∈ ts, s.size < 4611686018427387904) :
    PC Try.prog T 10 [.v true [(C.sl (nS ns) (sC ns)), (C.sl (nS ts) (sC ts)), (C.sl (nR rs) (rC rs))]] (ret1 (.st (vI (fewG ns ts rs)))) [] := by
  refine pc_of tok Try.func10 rfl (by rfl) ?_
  obtain ⟨j, hj⟩ : ∃ j : J, j = std Try.prog T := ⟨_, rfl⟩
  have hm : Try.prog.follows .mixedOrders = true := by kernel_rfl
  have nn := nS_eq ns; have nt := nS_eq ts; have nr := nR_eq rs
  generalize y_rC : @rC = x_rC at *
  generalize y_nR : @nR = x_nR at *
  generalize y_fewG : @fewG = x_fewG at *
  generalize y_sC : @sC = x_sC at *
  generalize y_nS : @nS = x_nS at *
  generalize y_nI : @nI = x_nI at *
  (repeat' first | ((first | with_reducible refine tr_cut (fun h => ?_) (fun h => ?_) | refine aw_condj (by cbv) (fun h => ?_) (fun h => ?_)) <;> (try simp (disch := omega) only [hj, std, cmpI, cmpB, satB, Bool.not_eq_true, Bool.not_eq_false, decide_eq_true_eq, decide_eq_false_iff_not, beq_iff_eq, bne_iff_ne, bne_eq_false_iff_eq, beq_eq_false_iff_ne, ne_eq, reduceCtorEq, not_true_eq_false, not_false_eq_true, pl0, if_true, cmpS_eq, cmpS_neq, Bool.not_eq_eq_eq_not, Bool.not_true, Bool.not_false, Bool.not_eq_true', add64, sub64] at h) <;> (try (exfalso; omega))) | (with_reducible refine tr_alt (fun h => ?_) ?_ <;> (try (exfalso; omega))) | (with_reducible refine tr_ob ?_ ?_) | (with_reducible refine tr_done ?_) | (refine aw_tr hj tok book0 (by cbv) ?_) | (refine aw_seq fun K hK => ?_) | (refine aw_tr1 hj tok book0 (by cbv) ?_) | (refine aw_skip ?_) | (refine aw_block ?_) | (refine aw_exit ?_) | (refine aw_ret ⟨.inr rfl, ret_okj hj (by cbv) ?_ ?_⟩) | (refine aw_ret ?_) | (with_reducible refine th_n ?_) | (with_reducible refine th_r ?_) | (with_reducible refine th_x ?_) | (with_reducible refine blk_n ?_) | (with_reducible refine blk_r ?_) | (with_reducible refine blk_x ?_) | (with_reducible refine blk_y rfl ?_) | (refine ⟨.inr rfl, ret_okj hj (by cbv) ?_ ?_⟩) | (refine ⟨.inl rfl, ret_okj hj (by cbv) ?_ ?_⟩) | ((with_reducible refine ⟨(_, _, _, _, _, _, _), by cbv, ?_, ?_⟩)) | ((with_reducible refine ⟨(_, _, _, _, _, _), by cbv, ?_, ?_⟩)) | ((with_reducible refine ⟨(_, _, _, _, _), by cbv, ?_, ?_⟩)) | ((with_reducible refine ⟨(_, _, _, _), by cbv, ?_, ?_⟩)) | ((with_reducible refine ⟨(_, _, _), by cbv, ?_, ?_⟩)) | ((with_reducible refine ⟨(_, _), by cbv, ?_, ?_⟩)) | ((with_reducible refine ⟨_, by cbv, ?_, ?_⟩)) | (with_reducible apply_assumption -symm -exfalso only [*]))
  all_goals ((try subst y_rC); (try subst y_nR); (try subst y_fewG); (try subst y_sC); (try subst y_nS); (try subst y_nI))
  all_goals (try (repeat' first | with_reducible exact obl0 | with_reducible refine obl1 ?_ ?_))
  all_goals (try first | with_reducible exact True.intro | ((first | refine ob_le hj ?_ | refine ob_lei hj ?_ | refine ob_inb hj ?_ | refine ob_pos hj ?_ | refine ob_ne0 hj ?_ | refine ob_eqb hj ?_); (first | rfl | first | omega | (simp only [hj, std]; split <;> omega) | (simp (disch := omega) only [hj, std, cmpI, cmpB, satB, add64, sub64, ite0, pl0, pl2, pl3, sb0, if_true, if_false, eq_self] <;> omega) | (simp (disch := omega) [hj, std, cmpI, cmpB, satB, add64, sub64, ite0, pl0, pl2, pl3, sb0, if_true, if_false, eq_self] <;> omega))) | ((refine r1i ?_; exact fewG_no1 (by omega))))
  refine aw_lpj hj [(1, .keep), (3, .keep)] [1] (fun (i : Int) => stOf 65 [(1, .one (.ptr 1 0)), (3, .one (.c (vI i)))] [(1, .box [.st ((C.sl (nS ns) (sC ns))), .st ((C.sl (nS ts) (sC ts))), .st ((C.sl (nR rs) (rC rs)))])]) (fun (i : Int) => nR rs - i.toNat) (fun (i : Int) => 0 ≤ i ∧ i ≤ nR rs ∧ ∀ n : Nat, (n : Int) < i → nI (rAt rs n).2 ≤ 20) (0) (by generalize @rC = x_rC; generalize @nR = x_nR; generalize @fewG = x_fewG; generalize @sC = x_sC; generalize @nS = x_nS; generalize @nI = x_nI; cbv) ?_ (fun i hI => ?_)
  · exact ⟨by omega, by omega, fun n h => by omega⟩
  obtain ⟨i1, i2, i3⟩ := hI
  generalize y_rC : @rC = x_rC at *
  generalize y_nR : @nR = x_nR at *
  generalize y_fewG : @fewG = x_fewG at *
  generalize y_sC : @sC = x_sC at *
  generalize y_nS : @nS = x_nS at *
  generalize y_nI : @nI = x_nI at *
  (repeat' first | ((first | with_reducible refine tr_cut (fun h => ?_) (fun h => ?_) | refine aw_condj (by cbv) (fun h => ?_) (fun h => ?_)) <;> (try simp (disch := omega) only [hj, std, cmpI, cmpB, satB, Bool.not_eq_true, Bool.not_eq_false, decide_eq_true_eq, decide_eq_false_iff_not, beq_iff_eq, bne_iff_ne, bne_eq_false_iff_eq, beq_eq_false_iff_ne, ne_eq, reduceCtorEq, not_true_eq_false, not_false_eq_true, pl0, if_true, cmpS_eq, cmpS_neq, Bool.not_eq_eq_eq_not, Bool.not_true, Bool.not_false, Bool.not_eq_true', gn_rC, add64, sub64] at h) <;> (try (exfalso; omega))) | (with_reducible refine tr_alt (fun h => ?_) ?_ <;> (try (exfalso; omega))) | (with_reducible refine tr_ob ?_ ?_) | (with_reducible refine tr_done ?_) | (refine aw_tr hj tok book0 (by cbv) ?_) | (refine aw_seq fun K hK => ?_) | (refine aw_tr1 hj tok book0 (by cbv) ?_) | (refine aw_skip ?_) | (refine aw_block ?_) | (refine aw_exit ?_) | (refine aw_ret ⟨.inr rfl, ret_okj hj (by cbv) ?_ ?_⟩) | (refine aw_ret ?_) | (with_reducible refine th_n ?_) | (with_reducible refine th_r ?_) | (with_reducible refine th_x ?_) | (with_reducible refine blk_n ?_) | (with_reducible refine blk_r ?_) | (with_reducible refine blk_x ?_) | (with_reducible refine blk_y rfl ?_) | (refine ⟨.inr rfl, ret_okj hj (by cbv) ?_ ?_⟩) | (refine ⟨.inl rfl, ret_okj hj (by cbv) ?_ ?_⟩) | ((with_reducible refine ⟨(_, _, _, _, _, _, _), by cbv, ?_, ?_⟩)) | ((with_reducible refine ⟨(_, _, _, _, _, _), by cbv, ?_, ?_⟩)) | ((with_reducible refine ⟨(_, _, _, _, _), by cbv, ?_, ?_⟩)) | ((with_reducible refine ⟨(_, _, _, _), by cbv, ?_, ?_⟩)) | ((with_reducible refine ⟨(_, _, _), by cbv, ?_, ?_⟩)) | ((with_reducible refine ⟨(_, _), by cbv, ?_, ?_⟩)) | ((with_reducible refine ⟨_, by cbv, ?_, ?_⟩)) | (with_reducible apply_assumption -symm -exfalso only [*]))
  all_goals ((try subst y_rC); (try subst y_nR); (try subst y_fewG); (try subst y_sC); (try subst y_nS); (try subst y_nI))
  all_goals (try have q := ‹(gn (cellAt (rC rs) _) : Int) > 20›)
  all_goals (try have q := ‹¬ (gn (cellAt (rC rs) _) : Int) > 20›)
  all_goals (try simp only [ite0, gn_rC] at q)
  all_goals (try (repeat' first | with_reducible exact obl0 | with_reducible refine obl1 ?_ ?_))
  all_goals (try first | with_reducible exact True.intro | ((first | refine ob_le hj ?_ | refine ob_lei hj ?_ | refine ob_inb hj ?_ | refine ob_pos hj ?_ | refine ob_ne0 hj ?_ | refine ob_eqb hj ?_); (first | rfl | first | omega | (simp only [hj, std]; split <;> omega) | (simp (disch := omega) only [hj, std, cmpI, cmpB, satB, add64, sub64, ite0, pl0, pl2, pl3, sb0, if_true, if_false, eq_self, rC_len] <;> omega) | (simp (disch := omega) [hj, std, cmpI, cmpB, satB, add64, sub64, ite0, pl0, pl2, pl3, sb0, if_true, if_false, eq_self, rC_len] <;> omega))) | ((refine ob_ok hj ?_; simp only [hj, std, ite0]; exact ok_rC1 (by omega))) | ((refine r1i ?_; exact fewG_no2 i i1 (by assumption) (by omega))) | ((simp (disch := omega) only [hj, std, add64]; first | omega | (refine ⟨by omega, by omega, fun n hn => ?_⟩; by_cases e : (n : Int) < i; exact i3 n e; obtain rfl : n = i.toNat := (by omega); omega))))
  refine aw_lpj hj [(1, .keep), (4, .keep)] [1] (fun (k : Int) => stOf 65 [(1, .one (.ptr 1 0)), (4, .one (.c (vI k)))] [(1, .box [.st ((C.sl (nS ns) (sC ns))), .st ((C.sl (nS ts) (sC ts))), .st ((C.sl (nR rs) (rC rs)))])]) (fun (k : Int) => nS ns - k.toNat) (fun (k : Int) => 0 ≤ k ∧ k ≤ nS ns ∧ ∀ n : Nat, (n : Int) < k → (sAt ns n).size ≤ 40) (0) (by generalize @rC = x_rC; generalize @nR = x_nR; generalize @fewG = x_fewG; generalize @sC = x_sC; generalize @nS = x_nS; generalize @nI = x_nI; cbv) ?_ (fun k hI => ?_)
  · exact ⟨by omega, by omega, fun n h => by omega⟩
  obtain ⟨k1, k2, k3⟩ := hI
  generalize y_rC : @rC = x_rC at *
  generalize y_nR : @nR = x_nR at *
  generalize y_fewG : @fewG = x_fewG at *
  generalize y_sC : @sC = x_sC at *
  generalize y_nS : @nS = x_nS at *
  generalize y_nI : @nI = x_nI at *
  (repeat' first | ((first | with_reducible refine tr_cut (fun h => ?_) (fun h => ?_) | refine aw_condj (by cbv) (fun h => ?_) (fun h => ?_)) <;> (try simp (disch := omega) only [hj, std, cmpI, cmpB, satB, Bool.not_eq_true, Bool.not_eq_false, decide_eq_true_eq, decide_eq_false_iff_not, beq_iff_eq, bne_iff_ne, bne_eq_false_iff_eq, beq_eq_false_iff_ne, ne_eq, reduceCtorEq, not_true_eq_false, not_false_eq_true, pl0, if_true, cmpS_eq, cmpS_neq, Bool.not_eq_eq_eq_not, Bool.not_true, Bool.not_false, Bool.not_eq_true', gs_sC, add64, sub64] at h) <;> (try (exfalso; omega))) | (with_reducible refine tr_alt (fun h => ?_) ?_ <;> (try (exfalso; omega))) | (with_reducible refine tr_ob ?_ ?_) | (with_reducible refine tr_done ?_) | (refine aw_tr hj tok book0 (by cbv) ?_) | (refine aw_seq fun K hK => ?_) | (refine aw_tr1 hj tok book0 (by cbv) ?_) | (refine aw_skip ?_) | (refine aw_block ?_) | (refine aw_exit ?_) | (refine aw_ret ⟨.inr rfl, ret_okj hj (by cbv) ?_ ?_⟩) | (refine aw_ret ?_) | (with_reducible refine th_n ?_) | (with_reducible refine th_r ?_) | (with_reducible refine th_x ?_) | (with_reducible refine blk_n ?_) | (with_reducible refine blk_r ?_) | (with_reducible refine blk_x ?_) | (with_reducible refine blk_y rfl ?_) | (refine ⟨.inr rfl, ret_okj hj (by cbv) ?_ ?_⟩) | (refine ⟨.inl rfl, ret_okj hj (by cbv) ?_ ?_⟩) | ((with_reducible refine ⟨(_, _, _, _, _, _, _), by cbv, ?_, ?_⟩)) | ((with_reducible refine ⟨(_, _, _, _, _, _), by cbv, ?_, ?_⟩)) | ((with_reducible refine ⟨(_, _, _, _, _), by cbv, ?_, ?_⟩)) | ((with_reducible refine ⟨(_, _, _, _), by cbv, ?_, ?_⟩)) | ((with_reducible refine ⟨(_, _, _), by cbv, ?_, ?_⟩)) | ((with_reducible refine ⟨(_, _), by cbv, ?_, ?_⟩)) | ((with_reducible refine ⟨_, by cbv, ?_, ?_⟩)) | (with_reducible apply_assumption -symm -exfalso only [*]))
  all_goals ((try subst y_rC); (try subst y_nR); (try subst y_fewG); (try subst y_sC); (try subst y_nS); (try subst y_nI))
  all_goals (try have q := ‹((gs (cellAt (sC ns) _)).size : Int) > 40›)
  all_goals (try have q := ‹¬ ((gs (cellAt (sC ns) _)).size : Int) > 40›)
  all_goals (try simp only [ite0, gs_sC] at q)
  all_goals (try (repeat' first | with_reducible exact obl0 | with_reducible refine obl1 ?_ ?_))
  all_goals (try first | with_reducible exact True.intro | ((first | refine ob_le hj ?_ | refine ob_lei hj ?_ | refine ob_inb hj ?_ | refine ob_pos hj ?_ | refine ob_ne0 hj ?_ | refine ob_eqb hj ?_); (first | rfl | first | omega | (simp only [hj, std]; split <;> omega) | (simp (disch := omega) only [hj, std, cmpI, cmpB, satB, add64, sub64, ite0, pl0, pl2, pl3, sb0, if_true, if_false, eq_self, sC_len] <;> omega) | (simp (disch := omega) [hj, std, cmpI, cmpB, satB, add64, sub64, ite0, pl0, pl2, pl3, sb0, if_true, if_false, eq_self, sC_len] <;> omega))) | ((refine ob_ok hj ?_; simp only [hj, std, ite0]; exact ok_sC (by omega))) | ((refine r1i ?_; exact fewG_no3 k k1 (by assumption) (by omega))) | ((simp (disch := omega) only [hj, std, add64]; first | omega | (refine ⟨by omega, by omega, fun n hn => ?_⟩; by_cases e : (n : Int) < k; exact k3 n e; obtain rfl : n = k.toNat := (by omega); omega))))
  refine aw_lpj hj [(1, .keep), (5, .keep)] [1] (fun (m : Int) => stOf 65 [(1, .one (.ptr 1 0)), (5, .one (.c (vI m)))] [(1, .box [.st ((C.sl (nS ns) (sC ns))), .st ((C.sl (nS ts) (sC ts))), .st ((C.sl (nR rs) (rC rs)))])]) (fun (m : Int) => nS ts - m.toNat) (fun (m : Int) => 0 ≤ m ∧ m ≤ nS ts ∧ ∀ n : Nat, (n : Int) < m → (sAt ts n).size ≤ 40) (0) (by generalize @rC = x_rC; generalize @nR = x_nR; generalize @fewG = x_fewG; generalize @sC = x_sC; generalize @nS = x_nS; generalize @nI = x_nI; cbv) ?_ (fun m hI => ?_)
  · exact ⟨by omega, by omega, fun n h => by omega⟩
  obtain ⟨m1, m2, m3⟩ := hI
  generalize y_rC : @rC = x_rC at *
  generalize y_nR : @nR = x_nR at *
  generalize y_fewG : @fewG = x_fewG at *
  generalize y_sC : @sC = x_sC at *
  generalize y_nS : @nS = x_nS at *
  generalize y_nI : @nI = x_nI at *
  (repeat' first | ((first | with_reducible refine tr_cut (fun h => ?_) (fun h => ?_) | refine aw_condj (by cbv) (fun h => ?_) (fun h => ?_)) <;> (try simp (disch := omega) only [hj, std, cmpI, cmpB, satB, Bool.not_eq_true, Bool.not_eq_false, decide_eq_true_eq, decide_eq_false_iff_not, beq_iff_eq, bne_iff_ne, bne_eq_false_iff_eq, beq_eq_false_iff_ne, ne_eq, reduceCtorEq, not_true_eq_false, not_false_eq_true, pl0, if_true, cmpS_eq, cmpS_neq, Bool.not_eq_eq_eq_not, Bool.not_true, Bool.not_false, Bool.not_eq_true', gs_sC, add64, sub64] at h) <;> (try (exfalso; omega))) | (with_reducible refine tr_alt (fun h => ?_) ?_ <;> (try (exfalso; omega))) | (with_reducible refine tr_ob ?_ ?_) | (with_reducible refine tr_done ?_) | (refine aw_tr hj tok book0 (by cbv) ?_) | (refine aw_seq fun K hK => ?_) | (refine aw_tr1 hj tok book0 (by cbv) ?_) | (refine aw_skip ?_) | (refine aw_block ?_) | (refine aw_exit ?_) | (refine aw_ret ⟨.inr rfl, ret_okj hj (by cbv) ?_ ?_⟩) | (refine aw_ret ?_) | (with_reducible refine th_n ?_) | (with_reducible refine th_r ?_) | (with_reducible refine th_x ?_) | (with_reducible refine blk_n ?_) | (with_reducible refine blk_r ?_) | (with_reducible refine blk_x ?_) | (with_reducible refine blk_y rfl ?_) | (refine ⟨.inr rfl, ret_okj hj (by cbv) ?_ ?_⟩) | (refine ⟨.inl rfl, ret_okj hj (by cbv) ?_ ?_⟩) | ((with_reducible refine ⟨(_, _, _, _, _, _, _), by cbv, ?_, ?_⟩)) | ((with_reducible refine ⟨(_, _, _, _, _, _), by cbv, ?_, ?_⟩)) | ((with_reducible refine ⟨(_, _, _, _, _), by cbv, ?_, ?_⟩)) | ((with_reducible refine ⟨(_, _, _, _), by cbv, ?_, ?_⟩)) | ((with_reducible refine ⟨(_, _, _), by cbv, ?_, ?_⟩)) | ((with_reducible refine ⟨(_, _), by cbv, ?_, ?_⟩)) | ((with_reducible refine ⟨_, by cbv, ?_, ?_⟩)) | (with_reducible apply_assumption -symm -exfalso only [*]))
  all_goals ((try subst y_rC); (try subst y_nR); (try subst y_fewG); (try subst y_sC); (try subst y_nS); (try subst y_nI))
  all_goals (try have q := ‹((gs (cellAt (sC ts) _)).size : Int) > 40›)
  all_goals (try have q := ‹¬ ((gs (cellAt (sC ts) _)).size : Int) > 40›)
  all_goals (try simp only [ite0, gs_sC] at q)
  all_goals (try (repeat' first | with_reducible exact obl0 | with_reducible refine obl1 ?_ ?_))
  all_goals (try first | with_reducible exact True.intro | ((first | refine ob_le hj ?_ | refine ob_lei hj ?_ | refine ob_inb hj ?_ | refine ob_pos hj ?_ | refine ob_ne0 hj ?_ | refine ob_eqb hj ?_); (first | rfl | first | omega | (simp only [hj, std]; split <;> omega) | (simp (disch := omega) only [hj, std, cmpI, cmpB, satB, add64, sub64, ite0, pl0, pl2, pl3, sb0, if_true, if_false, eq_self, sC_len] <;> omega) | (simp (disch := omega) [hj, std, cmpI, cmpB, satB, add64, sub64, ite0, pl0, pl2, pl3, sb0, if_true, if_false, eq_self, sC_len] <;> omega))) | ((refine ob_ok hj ?_; simp only [hj, std, ite0]; exact ok_sC (by omega))) | ((refine r1i ?_; exact fewG_no4 m m1 (by assumption) (by omega))) | ((refine r1i ?_; exact fewG_ok (by omega) (by omega) (by omega) (fun n hn => i3 n (by omega)) (fun n hn => k3 n (by omega)) (fun n hn => m3 n (by omega)))) | ((simp (disch := omega) only [hj, std, add64]; first | omega | (refine ⟨by omega, by omega, fun n hn => ?_⟩; by_cases e : (n : Int) < m; exact m3 n e; obtain rfl : n = m.toNat := (by omega); omega))))
end Go.Proofs.Ytdmdcmhgfgookaa.A

/- Grammars: rules that are alike; texts that are; a nonterminal's rules. -/
set_option linter.unusedSimpArgs false
set_option linter.unusedVariables false
set_option maxRecDepth 100000
set_option maxHeartbeats 4000000
namespace Go.Proofs.Ytdmdcmhgfgookaa.A
open Go
abbrev intT : TypeId := 3
def dupR (l : List Rl) : Bool := decide (¬ l.Nodup)
theorem rAt_get {l : List Rl} {n : Nat} (h : n < l.length) : rAt l n = l[n] := by rw [rAt, List.getD_eq_getElem?_getD, List.getElem?_eq_getElem h]; rfl
theorem dupR_yes {l : List Rl} {i k : Nat} (hk : k < i) (hi : i < nR l) (h1 : (rAt l i).1 = (rAt l k).1) (h2 : (rAt l i).2 = (rAt l k).2) : dupR l = true := by
  have hn := nR_eq l
  unfold dupR; rw [decide_eq_true_eq]
  intro hd
  have h := List.pairwise_iff_getElem.1 hd k i (by omega) (by omega) hk
  rw [rAt_get (by omega), rAt_get (by omega)] at h1 h2
  exact h (Prod.ext h1.symm h2.symm)
theorem dupR_no {l : List Rl} (h : ∀ i : Nat, i < nR l → ∀ k : Nat, k < i → rAt l i ≠ rAt l k) : dupR l = false := by
  have hn := nR_eq l
  unfold dupR; rw [decide_eq_false_iff_not, Decidable.not_not]
  refine List.pairwise_iff_getElem.2 fun k i hk hi hki e => ?_
  refine h i (by omega) k hki ?_
  rw [rAt_get hi, rAt_get hk]; exact e.symm
theorem sameI_iff {l m : List Int} : sameI l m = true ↔ l = m := by unfold sameI; simp
theorem sameI_iff_not {l m : List Int} : sameI l m = false ↔ ¬ l = m := by unfold sameI; simp
def bookGs (x_intsOf : List C → List Int) (x_sameI : List Int → List Int → Bool) : Book := fun f xs => match f, xs with
  | 61, [.v false [.sl _ cs], .v false [.sl _ ds]] => some (ret1 (.st (vB (x_sameI (x_intsOf cs) (x_intsOf ds)))))
  | 85, [.v false [.sl _ cs], .v false [.sl _ ds]] => some (ret1 (.st (vB (x_sameI (x_intsOf cs) (x_intsOf ds)))))
  | _, _ => none
theorem c_SameR {a b : List Int} {n m : Nat} {cs ds : List C} (h1 : n = nI a) (h2 : cs = iC a) (h3 : m = nI b) (h4 : ds = iC b) (ha : nI a < 4611686018427387904) (hb : nI b < 4611686018427387904) : pc 61 [.v false [.sl n cs], .v false [.sl m ds]] (ret1 (.st (vB (sameI (intsOf cs) (intsOf ds))))) := by
  subst h1; subst h2; subst h3; subst h4
  rw [intsOf_iC, intsOf_iC]
  exact ⟨enters Try.func61 (by kernel_rfl) (by kernel_rfl), pc_SameRight a b ha hb⟩
theorem c_EqI {a b : List Int} {n m : Nat} {cs ds : List C} (h1 : n = nI a) (h2 : cs = iC a) (h3 : m = nI b) (h4 : ds = iC b) (ha : nI a < 4611686018427387904) (hb : nI b < 4611686018427387904) : pc 85 [.v false [.sl n cs], .v false [.sl m ds]] (ret1 (.st (vB (sameI (intsOf cs) (intsOf ds))))) := by
  subst h1; subst h2; subst h3; subst h4
  rw [intsOf_iC, intsOf_iC]
  exact ⟨enters Try.func85 (by kernel_rfl) (by kernel_rfl), pc_EqualI a b ha hb⟩
theorem gnR (l : List Rl) (k : Nat) : gn (cellAt (rC l) (if k * 2 = 0 then 1 else k * 2 + 1)) = nI (rAt l k).2 := by rw [ite0]; exact gn_rC l k
theorem gcR (l : List Rl) (k : Nat) : gc (cellAt (rC l) (if k * 2 = 0 then 1 else k * 2 + 1)) = iC (rAt l k).2 := by rw [ite0]; exact gc_rC l k
theorem pc_twice14 (l : List Rl) (hl : nR l < 2305843009213693952) (hr : ∀ r ∈ l, nI r.2 < 4611686018427387904) : PC Try.prog T 41 [.v false [(C.sl (nR l) (rC l))]] (ret1 (.st (vB (dupR l)))) [] := by
  refine pc_of tok Try.func41 rfl (by rfl) ?_
  obtain ⟨j, hj⟩ : ∃ j : J, j = std Try.prog T := ⟨_, rfl⟩
  have hm : Try.prog.follows .mixedOrders = true := by kernel_rfl
  have nr := nR_eq l
  generalize y_intsOf : @intsOf = x_intsOf at *
  generalize y_sameI : @sameI = x_sameI at *
  generalize y_rC : @rC = x_rC at *
  generalize y_nR : @nR = x_nR at *
  generalize y_dupR : @dupR = x_dupR at *
  generalize y_nI : @nI = x_nI at *
  (repeat' first | ((first | with_reducible refine tr_cut (fun h => ?_) (fun h => ?_) | refine aw_condj (by cbv) (fun h => ?_) (fun h => ?_)) <;> (try simp (disch := omega) only [hj, std, cmpI, cmpB, satB, Bool.not_eq_true, Bool.not_eq_false, decide_eq_true_eq, decide_eq_false_iff_not, beq_iff_eq, bne_iff_ne, bne_eq_false_iff_eq, beq_eq_false_iff_ne, ne_eq, reduceCtorEq, not_true_eq_false, not_false_eq_true, pl0, if_true, cmpS_eq, cmpS_neq, Bool.not_eq_eq_eq_not, Bool.not_true, Bool.not_false, Bool.not_eq_true', add64, sub64] at h) <;> (try (exfalso; omega))) | (with_reducible refine tr_alt (fun h => ?_) ?_ <;> (try (exfalso; omega))) | (with_reducible refine tr_ob ?_ ?_) | (with_reducible refine tr_done ?_) | (refine aw_tr hj tok (bookGs x_intsOf x_sameI) (by cbv) ?_) | (refine aw_seq fun K hK => ?_) | (refine aw_tr1 hj tok (bookGs x_intsOf x_sameI) (by cbv) ?_) | (refine aw_skip ?_) | (refine aw_block ?_) | (refine aw_exit ?_) | (refine aw_ret ⟨.inr rfl, ret_okj hj (by cbv) ?_ ?_⟩) | (refine aw_ret ?_) | (with_reducible refine th_n ?_) | (with_reducible refine th_r ?_) | (with_reducible refine th_x ?_) | (with_reducible refine blk_n ?_) | (with_reducible refine blk_r ?_) | (with_reducible refine blk_x ?_) | (with_reducible refine blk_y rfl ?_) | (refine ⟨.inr rfl, ret_okj hj (by cbv) ?_ ?_⟩) | (refine ⟨.inl rfl, ret_okj hj (by cbv) ?_ ?_⟩) | ((with_reducible refine ⟨(_, _, _, _, _, _, _), by cbv, ?_, ?_⟩)) | ((with_reducible refine ⟨(_, _, _, _, _, _), by cbv, ?_, ?_⟩)) | ((with_reducible refine ⟨(_, _, _, _, _), by cbv, ?_, ?_⟩)) | ((with_reducible refine ⟨(_, _, _, _), by cbv, ?_, ?_⟩)) | ((with_reducible refine ⟨(_, _, _), by cbv, ?_, ?_⟩)) | ((with_reducible refine ⟨(_, _), by cbv, ?_, ?_⟩)) | ((with_reducible refine ⟨_, by cbv, ?_, ?_⟩)) | (with_reducible apply_assumption -symm -exfalso only [*]))
  all_goals ((try subst y_intsOf); (try subst y_sameI); (try subst y_rC); (try subst y_nR); (try subst y_dupR); (try subst y_nI))
  refine aw_lpj hj [(0, .keep), (3, .keep)] [] (fun (i : Int) => stOf 40 [(0, .one (.c ((C.sl (nR l) (rC l))))), (3, .one (.c (vI i)))] []) (fun (i : Int) => nR l - i.toNat) (fun (i : Int) => 0 ≤ i ∧ i ≤ nR l ∧ ∀ n : Nat, (n : Int) < i → ∀ k : Nat, k < n → rAt l n ≠ rAt l k) (0) (by generalize @intsOf = x_intsOf; generalize @sameI = x_sameI; generalize @rC = x_rC; generalize @nR = x_nR; generalize @dupR = x_dupR; generalize @nI = x_nI; cbv) ?_ (fun i hI => ?_)
  · exact ⟨by omega, by omega, fun n h => by omega⟩
  obtain ⟨i1, i2, i3⟩ := hI
  generalize y_intsOf : @intsOf = x_intsOf at *
  generalize y_sameI : @sameI = x_sameI at *
  generalize y_rC : @rC = x_rC at *
  generalize y_nR : @nR = x_nR at *
  generalize y_dupR : @dupR = x_dupR at *
  generalize y_nI : @nI = x_nI at *
  (repeat' first | ((first | with_reducible refine tr_cut (fun h => ?_) (fun h => ?_) | refine aw_condj (by cbv) (fun h => ?_) (fun h => ?_)) <;> (try simp (disch := omega) only [hj, std, cmpI, cmpB, satB, Bool.not_eq_true, Bool.not_eq_false, decide_eq_true_eq, decide_eq_false_iff_not, beq_iff_eq, bne_iff_ne, bne_eq_false_iff_eq, beq_eq_false_iff_ne, ne_eq, reduceCtorEq, not_true_eq_false, not_false_eq_true, pl0, if_true, cmpS_eq, cmpS_neq, Bool.not_eq_eq_eq_not, Bool.not_true, Bool.not_false, Bool.not_eq_true', add64, sub64] at h) <;> (try (exfalso; omega))) | (with_reducible refine tr_alt (fun h => ?_) ?_ <;> (try (exfalso; omega))) | (with_reducible refine tr_ob ?_ ?_) | (with_reducible refine tr_done ?_) | (refine aw_tr hj tok (bookGs x_intsOf x_sameI) (by cbv) ?_) | (refine aw_seq fun K hK => ?_) | (refine aw_tr1 hj tok (bookGs x_intsOf x_sameI) (by cbv) ?_) | (refine aw_skip ?_) | (refine aw_block ?_) | (refine aw_exit ?_) | (refine aw_ret ⟨.inr rfl, ret_okj hj (by cbv) ?_ ?_⟩) | (refine aw_ret ?_) | (with_reducible refine th_n ?_) | (with_reducible refine th_r ?_) | (with_reducible refine th_x ?_) | (with_reducible refine blk_n ?_) | (with_reducible refine blk_r ?_) | (with_reducible refine blk_x ?_) | (with_reducible refine blk_y rfl ?_) | (refine ⟨.inr rfl, ret_okj hj (by cbv) ?_ ?_⟩) | (refine ⟨.inl rfl, ret_okj hj (by cbv) ?_ ?_⟩) | ((with_reducible refine ⟨(_, _, _, _, _, _, _), by cbv, ?_, ?_⟩)) | ((with_reducible refine ⟨(_, _, _, _, _, _), by cbv, ?_, ?_⟩)) | ((with_reducible refine ⟨(_, _, _, _, _), by cbv, ?_, ?_⟩)) | ((with_reducible refine ⟨(_, _, _, _), by cbv, ?_, ?_⟩)) | ((with_reducible refine ⟨(_, _, _), by cbv, ?_, ?_⟩)) | ((with_reducible refine ⟨(_, _), by cbv, ?_, ?_⟩)) | ((with_reducible refine ⟨_, by cbv, ?_, ?_⟩)) | (with_reducible apply_assumption -symm -exfalso only [*]))
  all_goals ((try subst y_intsOf); (try subst y_sameI); (try subst y_rC); (try subst y_nR); (try subst y_dupR); (try subst y_nI))
  all_goals (try (repeat' first | with_reducible exact obl0 | with_reducible refine obl1 ?_ ?_))
  all_goals (try first | with_reducible exact True.intro | ((first | refine ob_le hj ?_ | refine ob_lei hj ?_ | refine ob_inb hj ?_ | refine ob_pos hj ?_ | refine ob_ne0 hj ?_ | refine ob_eqb hj ?_); (first | rfl | first | omega | (simp only [hj, std]; split <;> omega) | (simp (disch := omega) only [hj, std, cmpI, cmpB, satB, add64, sub64, ite0, pl0, pl2, pl3, sb0, if_true, if_false, eq_self] <;> omega) | (simp (disch := omega) [hj, std, cmpI, cmpB, satB, add64, sub64, ite0, pl0, pl2, pl3, sb0, if_true, if_false, eq_self] <;> omega))) | ((refine r1b ?_; exact dupR_no fun n hn => i3 n (by omega))))
  refine aw_lpj hj [(0, .keep), (3, .keep), (4, .keep)] [] (fun (k : Int) => stOf 40 [(0, .one (.c ((C.sl (nR l) (rC l))))), (3, .one (.c (vI i))), (4, .one (.c (vI k)))] []) (fun (k : Int) => i.toNat - k.toNat) (fun (k : Int) => 0 ≤ k ∧ k ≤ i ∧ ∀ n : Nat, (n : Int) < k → rAt l i.toNat ≠ rAt l n) (0) (by generalize @intsOf = x_intsOf; generalize @sameI = x_sameI; generalize @rC = x_rC; generalize @nR = x_nR; generalize @dupR = x_dupR; generalize @nI = x_nI; cbv) ?_ (fun k hI => ?_)
  · exact ⟨by omega, by omega, fun n h => by omega⟩
  obtain ⟨k1, k2, k3⟩ := hI
  have hil : i < nR l := by assumption
  generalize y_intsOf : @intsOf = x_intsOf at *
  generalize y_sameI : @sameI = x_sameI at *
  generalize y_rC : @rC = x_rC at *
  generalize y_nR : @nR = x_nR at *
  generalize y_dupR : @dupR = x_dupR at *
  generalize y_nI : @nI = x_nI at *
  (repeat' first | ((first | with_reducible refine tr_cut (fun h => ?_) (fun h => ?_) | refine aw_condj (by cbv) (fun h => ?_) (fun h => ?_)) <;> (try simp (disch := omega) only [hj, std, cmpI, cmpB, satB, Bool.not_eq_true, Bool.not_eq_false, decide_eq_true_eq, decide_eq_false_iff_not, beq_iff_eq, bne_iff_ne, bne_eq_false_iff_eq, beq_eq_false_iff_ne, ne_eq, reduceCtorEq, not_true_eq_false, not_false_eq_true, pl0, if_true, cmpS_eq, cmpS_neq, Bool.not_eq_eq_eq_not, Bool.not_true, Bool.not_false, Bool.not_eq_true', ite0, add64, sub64] at h) <;> (try (exfalso; omega))) | (with_reducible refine tr_alt (fun h => ?_) ?_ <;> (try (exfalso; omega))) | (with_reducible refine tr_ob ?_ ?_) | (with_reducible refine tr_done ?_) | (refine aw_dr1 (id := 7) hj tok hm (bookGs x_intsOf x_sameI) true [(0, false), (1, false), (2, false), (3, false), (4, false), (5, false), (6, true), (7, true), (8, true), (9, true), (10, true), (11, true), (12, false), (13, false), (14, false), (15, false), (16, false), (17, false), (18, true), (19, true), (20, true), (21, true), (22, true), (23, true)] (by kernel_rfl) (by cbv) ?_) | (refine aw_dr (id := 7) hj tok hm (bookGs x_intsOf x_sameI) true [(0, false), (1, false), (2, false), (3, false), (4, false), (5, false), (6, true), (7, true), (8, true), (9, true), (10, true), (11, true), (12, false), (13, false), (14, false), (15, false), (16, false), (17, false), (18, true), (19, true), (20, true), (21, true), (22, true), (23, true)] (by kernel_rfl) (by cbv) ?_) | (refine aw_tr hj tok (bookGs x_intsOf x_sameI) (by cbv) ?_) | (refine aw_seq fun K hK => ?_) | (refine aw_tr1 hj tok (bookGs x_intsOf x_sameI) (by cbv) ?_) | (refine aw_skip ?_) | (refine aw_block ?_) | (refine aw_exit ?_) | (refine aw_ret ⟨.inr rfl, ret_okj hj (by cbv) ?_ ?_⟩) | (refine aw_ret ?_) | (with_reducible refine th_n ?_) | (with_reducible refine th_r ?_) | (with_reducible refine th_x ?_) | (with_reducible refine blk_n ?_) | (with_reducible refine blk_r ?_) | (with_reducible refine blk_x ?_) | (with_reducible refine blk_y rfl ?_) | (refine ⟨.inr rfl, ret_okj hj (by cbv) ?_ ?_⟩) | (refine ⟨.inl rfl, ret_okj hj (by cbv) ?_ ?_⟩) | ((with_reducible refine ⟨(_, _, _, _, _, _, _), by cbv, ?_, ?_⟩)) | ((with_reducible refine ⟨(_, _, _, _, _, _), by cbv, ?_, ?_⟩)) | ((with_reducible refine ⟨(_, _, _, _, _), by cbv, ?_, ?_⟩)) | ((with_reducible refine ⟨(_, _, _, _), by cbv, ?_, ?_⟩)) | ((with_reducible refine ⟨(_, _, _), by cbv, ?_, ?_⟩)) | ((with_reducible refine ⟨(_, _), by cbv, ?_, ?_⟩)) | ((with_reducible refine ⟨_, by cbv, ?_, ?_⟩)) | (with_reducible apply_assumption -symm -exfalso only [*]))
  all_goals ((try subst y_intsOf); (try subst y_sameI); (try subst y_rC); (try subst y_nR); (try subst y_dupR); (try subst y_nI))
  all_goals (try have q := ‹gi (cellAt (rC l) _) = _›)
  all_goals (try have q := ‹¬ gi (cellAt (rC l) _) = _›)
  all_goals (try rw [gi_rC, gi_rC] at q)
  all_goals (try have p := ‹sameI _ _ = true›)
  all_goals (try have p := ‹sameI _ _ = false›)
  all_goals (try simp only [ite0, gcR, gc_rC, intsOf_iC, sameI_iff, sameI_iff_not] at p)
  all_goals (try (repeat' first | with_reducible exact obl0 | with_reducible refine obl1 ?_ ?_))
  all_goals (try first | with_reducible exact True.intro | (refine ob_pc hj ?_; (try rw [hj]); first | exact c_SameR (a := (rAt l i.toNat).2) (b := (rAt l k.toNat).2) (gnR _ _) (gcR _ _) (gnR _ _) (gcR _ _) (hr _ (rAt_mem l i (by omega) (by omega))) (hr _ (rAt_mem l k (by omega) (by omega)))) | (refine ob_pcn hj ?_; (try rw [hj]); first | exact c_SameR (a := (rAt l i.toNat).2) (b := (rAt l k.toNat).2) (gnR _ _) (gcR _ _) (gnR _ _) (gcR _ _) (hr _ (rAt_mem l i (by omega) (by omega))) (hr _ (rAt_mem l k (by omega) (by omega)))) | ((first | refine ob_le hj ?_ | refine ob_lei hj ?_ | refine ob_inb hj ?_ | refine ob_pos hj ?_ | refine ob_ne0 hj ?_ | refine ob_eqb hj ?_); (first | rfl | first | omega | (simp only [hj, std]; split <;> omega) | (simp (disch := omega) only [hj, std, cmpI, cmpB, satB, add64, sub64, ite0, pl0, pl2, pl3, sb0, if_true, if_false, eq_self, rC_len] <;> omega) | (simp (disch := omega) [hj, std, cmpI, cmpB, satB, add64, sub64, ite0, pl0, pl2, pl3, sb0, if_true, if_false, eq_self, rC_len] <;> omega))) | ((refine ob_ok hj ?_; simp only [hj, std, ite0]; first | exact ok_rC1 (by omega) | exact ok_rC0 (by omega))) | ((refine r1b ?_; exact dupR_yes (i := i.toNat) (k := k.toNat) (by omega) (by omega) q p)) | ((simp (disch := omega) only [hj, std, add64]; first | omega | (refine ⟨by omega, by omega, fun n hn => ?_⟩; by_cases e : (n : Int) < k; exact k3 n e; obtain rfl : n = k.toNat := (by omega); intro ee; first | exact q (congrArg Prod.fst ee) | exact p (congrArg Prod.snd ee)) | (refine ⟨by omega, by omega, fun n hn => ?_⟩; by_cases e : (n : Int) < i; exact i3 n e; obtain rfl : n = i.toNat := (by omega); exact fun m hm => k3 m (by omega)))))
end Go.Proofs.Ytdmdcmhgfgookaa.A

/- Grammars: texts of which no two are alike; a nonterminal's rules. -/
set_option linter.unusedSimpArgs false
set_option linter.unusedVariables false
set_option maxRecDepth 100000
set_option maxHeartbeats 4000000
namespace Go.Proofs.Ytdmdcmhgfgookaa.A
open Go
/-- how often a map has counted texts -/
def Cnt (m : GM) (l : List ByteArray) (b : Int) : Prop := ∀ w : ByteArray, ∃ c : Int, mgetS m w (vI 0) = vI c ∧ 0 ≤ c ∧ c ≤ b ∧ (c = 0 ↔ w ∉ l)
theorem cnt_new : Cnt GM.new [] 0 := fun w => ⟨0, mget_new w _, by omega, by omega, by simp⟩
theorem cnt_bump {m : GM} {l : List ByteArray} {b : Int} (h : Cnt m l b) (w : ByteArray) {c : Int} (hc : c = gi (mgetC m.ks m.vs (.string w) (vI 0)) + 1) : Cnt (m.set (.string w) (vI c)) (l ++ [w]) (b + 1) := by
  intro x
  rw [mget_set]
  by_cases e : w = x
  · subst e
    rw [if_pos rfl]
    obtain ⟨c', h1, h2, h3, h4⟩ := h w
    have h5 : gi (mgetC m.ks m.vs (.string w) (vI 0)) = c' := by
      have : mgetC m.ks m.vs (.string w) (vI 0) = vI c' := h1
      rw [this]; rfl
    refine ⟨_, rfl, by omega, by omega, ?_⟩
    exact ⟨fun hh => by omega, fun hh => absurd (by simp) hh⟩
  · rw [if_neg e]
    obtain ⟨c', h1, h2, h3, h4⟩ := h x
    refine ⟨c', h1, h2, by omega, ?_⟩
    rw [h4]
    simp only [List.mem_append, List.mem_singleton, not_or]
    exact ⟨fun k => ⟨k, fun e2 => e e2.symm⟩, fun k => k.1⟩
def dstS (p : ByteArray → Bool) (l : List ByteArray) : Bool := decide ((∀ s ∈ l, p s = true) ∧ l.Nodup)
theorem dst_no1 {p : ByteArray → Bool} {l : List ByteArray} (i : Int) (h0 : 0 ≤ i) (hi : i < nS l) (h : p (sAt l i.toNat) = false) : dstS p l = false :=
  decide_eq_false fun hh => by rw [hh.1 _ (sAt_mem l i h0 hi)] at h; cases h
theorem sAt_get {l : List ByteArray} {n : Nat} (h : n < l.length) : sAt l n = l[n] := by rw [sAt, List.getD_eq_getElem?_getD, List.getElem?_eq_getElem h]; rfl
theorem take_sAt (l : List ByteArray) (i : Int) (h0 : 0 ≤ i) (h : i < nS l) : l.take (i + 1).toNat = l.take i.toNat ++ [sAt l i.toNat] := take_step l i h0 h
theorem dst_no2 {p : ByteArray → Bool} {l : List ByteArray} (i : Int) (h0 : 0 ≤ i) (hi : i < nS l) (h : sAt l i.toNat ∈ l.take i.toNat) : dstS p l = false :=
  decide_eq_false fun hh => by
    have h2 := hh.2.sublist (List.take_sublist (i + 1).toNat l)
    rw [take_sAt l i h0 hi, List.nodup_append] at h2
    exact h2.2.2 _ h _ (by simp) rfl
theorem dst_yes {p : ByteArray → Bool} {l : List ByteArray} (h1 : ∀ n : Nat, n < nS l → p (sAt l n) = true) (h2 : (l.take l.length).Nodup) : dstS p l = true := by
  rw [List.take_length] at h2
  exact decide_eq_true ⟨fun s hs => by obtain ⟨n, hn, rfl⟩ := mem_sAt hs; exact h1 n hn, h2⟩
theorem dst_iff {p : ByteArray → Bool} {l : List ByteArray} : dstS p l = true ↔ (∀ s ∈ l, p s = true) ∧ l.Nodup := by unfold dstS; rw [decide_eq_true_eq]
def bookGd (p : ByteArray → Bool) : Book := fun _ xs => match xs with | [.v false [.val (.string s)]] => some (ret1 (.st (vB (p s)))) | _ => none
theorem pc_distinct (l : List ByteArray) (f : FuncId) (p : ByteArray → Bool) (hl : nS l ≤ 1000000) (hp : ∀ s ∈ l, pc f [.v false [vS s]] (ret1 (.st (vB (p s))))) :
    PC Try.prog T 49 [.v false [(C.sl (nS l) (sC l))], .fn f] (ret1 (.st (vB (dstS p l)))) [] := by
  refine pc_of tok Try.func49 rfl (by rfl) ?_
  obtain ⟨j, hj⟩ : ∃ j : J, j = std Try.prog T := ⟨_, rfl⟩
  have hm : Try.prog.follows .mixedOrders = true := by kernel_rfl
  have nl := nS_eq l
  generalize y_dstS : @dstS = x_dstS at *
  generalize y_sC : @sC = x_sC at *
  generalize y_nS : @nS = x_nS at *
  (repeat' first | ((first | with_reducible refine tr_cut (fun h => ?_) (fun h => ?_) | refine aw_condj (by cbv) (fun h => ?_) (fun h => ?_)) <;> (try simp (disch := omega) only [hj, std, cmpI, cmpB, satB, Bool.not_eq_true, Bool.not_eq_false, decide_eq_true_eq, decide_eq_false_iff_not, beq_iff_eq, bne_iff_ne, bne_eq_false_iff_eq, beq_eq_false_iff_ne, ne_eq, reduceCtorEq, not_true_eq_false, not_false_eq_true, pl0, if_true, cmpS_eq, cmpS_neq, Bool.not_eq_eq_eq_not, Bool.not_true, Bool.not_false, Bool.not_eq_true', add64, sub64] at h) <;> (try (exfalso; omega))) | (with_reducible refine tr_alt (fun h => ?_) ?_ <;> (try (exfalso; omega))) | (with_reducible refine tr_ob ?_ ?_) | (with_reducible refine tr_done ?_) | (refine aw_tr hj tok (bookGd p) (by cbv) ?_) | (refine aw_seq fun K hK => ?_) | (refine aw_tr1 hj tok (bookGd p) (by cbv) ?_) | (refine aw_skip ?_) | (refine aw_block ?_) | (refine aw_exit ?_) | (refine aw_ret ⟨.inr rfl, ret_okj hj (by cbv) ?_ ?_⟩) | (refine aw_ret ?_) | (with_reducible refine th_n ?_) | (with_reducible refine th_r ?_) | (with_reducible refine th_x ?_) | (with_reducible refine blk_n ?_) | (with_reducible refine blk_r ?_) | (with_reducible refine blk_x ?_) | (with_reducible refine blk_y rfl ?_) | (refine ⟨.inr rfl, ret_okj hj (by cbv) ?_ ?_⟩) | (refine ⟨.inl rfl, ret_okj hj (by cbv) ?_ ?_⟩) | ((with_reducible refine ⟨(_, _, _, _, _, _, _), by cbv, ?_, ?_⟩)) | ((with_reducible refine ⟨(_, _, _, _, _, _), by cbv, ?_, ?_⟩)) | ((with_reducible refine ⟨(_, _, _, _, _), by cbv, ?_, ?_⟩)) | ((with_reducible refine ⟨(_, _, _, _), by cbv, ?_, ?_⟩)) | ((with_reducible refine ⟨(_, _, _), by cbv, ?_, ?_⟩)) | ((with_reducible refine ⟨(_, _), by cbv, ?_, ?_⟩)) | ((with_reducible refine ⟨_, by cbv, ?_, ?_⟩)) | (with_reducible apply_assumption -symm -exfalso only [*]))
  all_goals ((try subst y_dstS); (try subst y_sC); (try subst y_nS))
  refine aw_lpj hj [(1, .keep), (5, .map), (9, .keep), (10, .keep), (11, .keep)] [] (fun (⟨i, m⟩ : Int × GM) => stOf 30 [(1, .one (.fn f [])), (5, .one (.mv 5 0)), (9, .one (.c ((C.sl (nS l) (sC l))))), (10, .one (.c (vI (j.ofNat (nS l))))), (11, .one (.c (vI i)))] [(5, .loose [.map .str m])]) (fun (⟨i, m⟩ : Int × GM) => nS l - i.toNat) (fun (⟨i, m⟩ : Int × GM) => 0 ≤ i ∧ i ≤ nS l ∧ Cnt m (l.take i.toNat) i ∧ (∀ n : Nat, (n : Int) < i → p (sAt l n) = true) ∧ (l.take i.toNat).Nodup) ((0, j.mnew)) (by generalize @dstS = x_dstS; generalize @sC = x_sC; generalize @nS = x_nS; cbv) ?_ (fun ⟨i, m⟩ hI => ?_)
  · refine ⟨by omega, by omega, ?_, fun n h => by omega, List.nodup_nil⟩
    rw [hj]; exact cnt_new
  obtain ⟨i1, i2, i3, i4, i5⟩ := hI
  have i3' := i3
  obtain ⟨c, c1, c2, c3, c4⟩ := i3 (gs (cellAt (sC l) i.toNat))
  have c1' : mgetC m.ks m.vs (.string (gs (cellAt (sC l) i.toNat))) (vI 0) = vI c := c1
  have c5 : gi (mgetC m.ks m.vs (.string (gs (cellAt (sC l) i.toNat))) (vI 0)) = c := by rw [c1']; rfl
  rw [gs_sC] at c4
  have hpi : i < nS l → pc f [.v false [vS (gs (cellAt (sC l) i.toNat))]] (ret1 (.st (vB (p (gs (cellAt (sC l) i.toNat)))))) := fun h => by rw [gs_sC]; exact hp _ (sAt_mem l i i1 h)
  generalize y_dstS : @dstS = x_dstS at *
  generalize y_sC : @sC = x_sC at *
  generalize y_nS : @nS = x_nS at *
  (repeat' first | ((first | with_reducible refine tr_cut (fun h => ?_) (fun h => ?_) | refine aw_condj (by cbv) (fun h => ?_) (fun h => ?_)) <;> (try simp (disch := omega) only [hj, std, cmpI, cmpB, satB, Bool.not_eq_true, Bool.not_eq_false, decide_eq_true_eq, decide_eq_false_iff_not, beq_iff_eq, bne_iff_ne, bne_eq_false_iff_eq, beq_eq_false_iff_ne, ne_eq, reduceCtorEq, not_true_eq_false, not_false_eq_true, pl0, if_true, cmpS_eq, cmpS_neq, Bool.not_eq_eq_eq_not, Bool.not_true, Bool.not_false, Bool.not_eq_true', add64, sub64] at h) <;> (try (exfalso; omega))) | (with_reducible refine tr_alt (fun h => ?_) ?_ <;> (try (exfalso; omega))) | (with_reducible refine tr_ob ?_ ?_) | (with_reducible refine tr_done ?_) | (refine aw_tr hj tok (bookGd p) (by cbv) ?_) | (refine aw_seq fun K hK => ?_) | (refine aw_tr1 hj tok (bookGd p) (by cbv) ?_) | (refine aw_skip ?_) | (refine aw_block ?_) | (refine aw_exit ?_) | (refine aw_ret ⟨.inr rfl, ret_okj hj (by cbv) ?_ ?_⟩) | (refine aw_ret ?_) | (with_reducible refine th_n ?_) | (with_reducible refine th_r ?_) | (with_reducible refine th_x ?_) | (with_reducible refine blk_n ?_) | (with_reducible refine blk_r ?_) | (with_reducible refine blk_x ?_) | (with_reducible refine blk_y rfl ?_) | (refine ⟨.inr rfl, ret_okj hj (by cbv) ?_ ?_⟩) | (refine ⟨.inl rfl, ret_okj hj (by cbv) ?_ ?_⟩) | ((with_reducible refine ⟨(_, _, _, _, _, _, _), by cbv, ?_, ?_⟩)) | ((with_reducible refine ⟨(_, _, _, _, _, _), by cbv, ?_, ?_⟩)) | ((with_reducible refine ⟨(_, _, _, _, _), by cbv, ?_, ?_⟩)) | ((with_reducible refine ⟨(_, _, _, _), by cbv, ?_, ?_⟩)) | ((with_reducible refine ⟨(_, _, _), by cbv, ?_, ?_⟩)) | ((with_reducible refine ⟨(_, _), by cbv, ?_, ?_⟩)) | ((with_reducible refine ⟨_, by cbv, ?_, ?_⟩)) | (with_reducible apply_assumption -symm -exfalso only [*]))
  all_goals ((try subst y_dstS); (try subst y_sC); (try subst y_nS))
  all_goals (try have q := ‹p _ = false›)
  all_goals (try have q := ‹p _ = true›)
  all_goals (try rw [gs_sC] at q)
  all_goals (try have r := ‹gi (mgetC m.ks m.vs _ _) > 0›)
  all_goals (try have r := ‹¬ gi (mgetC m.ks m.vs _ _) > 0›)
  all_goals (try rw [c5] at r)
  all_goals (try have hin : sAt l i.toNat ∈ l.take i.toNat := (by by_cases hh : sAt l i.toNat ∈ l.take i.toNat; exact hh; exact absurd (c4.2 hh) (by omega)))
  all_goals (try have hout : sAt l i.toNat ∉ l.take i.toNat := c4.1 (by omega))
  all_goals (try (repeat' first | with_reducible exact obl0 | with_reducible refine obl1 ?_ ?_))
  all_goals (try first | with_reducible exact True.intro | (refine ob_pc hj ?_; (try rw [hj]); first | exact hpi (by omega)) | (refine ob_pcn hj ?_; (try rw [hj]); first | exact hpi (by omega)) | ((first | refine ob_le hj ?_ | refine ob_lei hj ?_ | refine ob_inb hj ?_ | refine ob_pos hj ?_ | refine ob_ne0 hj ?_ | refine ob_eqb hj ?_); (first | rfl | first | omega | (simp only [hj, std]; split <;> omega) | (simp (disch := omega) only [hj, std, cmpI, cmpB, satB, add64, sub64, ite0, pl0, pl2, pl3, sb0, if_true, if_false, eq_self, sC_len] <;> omega) | (simp (disch := omega) [hj, std, cmpI, cmpB, satB, add64, sub64, ite0, pl0, pl2, pl3, sb0, if_true, if_false, eq_self, sC_len] <;> omega))) | ((refine ob_ok hj ?_; simp only [hj, std, ite0]; first | exact ok_sC (by omega) | exact ⟨_, c1'⟩)) | ((refine r1b ?_; exact dst_no1 i i1 (by assumption) q)) | ((refine r1b ?_; exact dst_no2 i i1 (by assumption) hin)) | ((refine r1b ?_; refine dst_yes (fun n hn => i4 n (by omega)) ?_; have hi : i.toNat = l.length := (by omega); rw [← hi]; exact i5)))
  all_goals (have e9 : arithI .add .i64 i 1 = i + 1 := add64 (by omega) (by omega); have hlt : i < nS l := (by assumption); rw [hj])
  · show 0 ≤ arithI .add .i64 i 1 ∧ arithI .add .i64 i 1 ≤ nS l ∧ Cnt (m.set (.string (gs (cellAt (sC l) i.toNat))) (vI (arithI .add .i64 (gi (mgetC m.ks m.vs (.string (gs (cellAt (sC l) i.toNat))) (vI 0))) 1))) (l.take (arithI .add .i64 i 1).toNat) (arithI .add .i64 i 1) ∧ (∀ n : Nat, (n : Int) < arithI .add .i64 i 1 → p (sAt l n) = true) ∧ (l.take (arithI .add .i64 i 1).toNat).Nodup
    have e8 : arithI .add .i64 c 1 = c + 1 := add64 (by omega) (by omega)
    rw [e9, c5, e8, take_sAt l i i1 hlt]
    refine ⟨by omega, by omega, ?_, fun n hn => ?_, ?_⟩
    · have := cnt_bump i3' (gs (cellAt (sC l) i.toNat)) (c := c + 1) (by rw [c5])
      rw [gs_sC] at this ⊢; exact this
    · by_cases e : (n : Int) < i
      · exact i4 n e
      · obtain rfl : n = i.toNat := by omega
        exact q
    · rw [List.nodup_append]
      exact ⟨i5, by simp, fun a ha b hb e => by rw [List.mem_singleton.1 hb] at e; exact hout (e ▸ ha)⟩
  · show nS l - (arithI .add .i64 i 1).toNat < nS l - i.toNat
    rw [e9]; omega
/-- the places of a nonterminal's rules -/
def ofGo (left : Int) : List Rl → Int → List Int
  | [], _ => []
  | r :: l, i => if r.1 = left then i :: ofGo left l (i + 1) else ofGo left l (i + 1)
def ofR (l : List Rl) (left : Int) : List Int := ofGo left l 0
theorem rdrop_step (l : List Rl) (i : Int) (h0 : 0 ≤ i) (h : i < nR l) : l.drop i.toNat = rAt l i.toNat :: l.drop (i + 1).toNat := by
  have hn := nR_eq l
  have e : (i + 1).toNat = i.toNat + 1 := by omega
  rw [e]; exact drop_cons _ (by omega)
theorem rdrop_fin (l : List Rl) (i : Int) (h : ¬ i < nR l) : l.drop i.toNat = [] := by
  have hn := nR_eq l
  exact List.drop_eq_nil_of_le (by omega)
theorem ofGo_nil {left : Int} : ∀ (l : List Rl) (i : Int), ofGo left l i = [] ↔ ∀ r ∈ l, r.1 ≠ left := by
  intro l
  induction l with
  | nil => intro i; simp [ofGo]
  | cons r l ih =>
    intro i
    unfold ofGo
    by_cases h : r.1 = left
    · rw [if_pos h]; simp [h]
    · rw [if_neg h, ih]; simp [h]
theorem pc_Of (ns ts : List ByteArray) (rs : List Rl) (left : Int) (h3 : nR rs ≤ 1000000) : PC Try.prog T 26 [.v true [(C.sl (nS ns) (sC ns)), (C.sl (nS ts) (sC ts)), (C.sl (nR rs) (rC rs))], .v false [vI left]] (ret1 (.own intT (nI (ofR rs left)) (iC (ofR rs left)))) [] := by
  refine pc_of tok Try.func26 rfl (by rfl) ?_
  obtain ⟨j, hj⟩ : ∃ j : J, j = std Try.prog T := ⟨_, rfl⟩
  have hm : Try.prog.follows .mixedOrders = true := by kernel_rfl
  have nr := nR_eq rs
  generalize y_rC : @rC = x_rC at *
  generalize y_nR : @nR = x_nR at *
  generalize y_ofR : @ofR = x_ofR at *
  generalize y_sC : @sC = x_sC at *
  generalize y_iC : @iC = x_iC at *
  generalize y_nS : @nS = x_nS at *
  generalize y_nI : @nI = x_nI at *
  (repeat' first | ((first | with_reducible refine tr_cut (fun h => ?_) (fun h => ?_) | refine aw_condj (by cbv) (fun h => ?_) (fun h => ?_)) <;> (try simp (disch := omega) only [hj, std, cmpI, cmpB, satB, Bool.not_eq_true, Bool.not_eq_false, decide_eq_true_eq, decide_eq_false_iff_not, beq_iff_eq, bne_iff_ne, bne_eq_false_iff_eq, beq_eq_false_iff_ne, ne_eq, reduceCtorEq, not_true_eq_false, not_false_eq_true, pl0, if_true, cmpS_eq, cmpS_neq, Bool.not_eq_eq_eq_not, Bool.not_true, Bool.not_false, Bool.not_eq_true', add64, sub64] at h) <;> (try (exfalso; omega))) | (with_reducible refine tr_alt (fun h => ?_) ?_ <;> (try (exfalso; omega))) | (with_reducible refine tr_ob ?_ ?_) | (with_reducible refine tr_done ?_) | (refine aw_tr hj tok book0 (by cbv) ?_) | (refine aw_seq fun K hK => ?_) | (refine aw_tr1 hj tok book0 (by cbv) ?_) | (refine aw_skip ?_) | (refine aw_block ?_) | (refine aw_exit ?_) | (refine aw_ret ⟨.inr rfl, ret_okj hj (by cbv) ?_ ?_⟩) | (refine aw_ret ?_) | (with_reducible refine th_n ?_) | (with_reducible refine th_r ?_) | (with_reducible refine th_x ?_) | (with_reducible refine blk_n ?_) | (with_reducible refine blk_r ?_) | (with_reducible refine blk_x ?_) | (with_reducible refine blk_y rfl ?_) | (refine ⟨.inr rfl, ret_okj hj (by cbv) ?_ ?_⟩) | (refine ⟨.inl rfl, ret_okj hj (by cbv) ?_ ?_⟩) | ((with_reducible refine ⟨(_, _, _, _, _, _, _), by cbv, ?_, ?_⟩)) | ((with_reducible refine ⟨(_, _, _, _, _, _), by cbv, ?_, ?_⟩)) | ((with_reducible refine ⟨(_, _, _, _, _), by cbv, ?_, ?_⟩)) | ((with_reducible refine ⟨(_, _, _, _), by cbv, ?_, ?_⟩)) | ((with_reducible refine ⟨(_, _, _), by cbv, ?_, ?_⟩)) | ((with_reducible refine ⟨(_, _), by cbv, ?_, ?_⟩)) | ((with_reducible refine ⟨_, by cbv, ?_, ?_⟩)) | (with_reducible apply_assumption -symm -exfalso only [*]))
  all_goals ((try subst y_rC); (try subst y_nR); (try subst y_ofR); (try subst y_sC); (try subst y_iC); (try subst y_nS); (try subst y_nI))
  refine aw_lpj hj [(1, .keep), (5, .own intT), (9, .keep), (10, .keep), (11, .keep)] [] (fun (⟨i, n, cs⟩ : Int × Nat × (List C)) => stOf 26 [(1, .one (.c (vI left))), (5, .one (.view 5 0)), (9, .one (.c ((C.sl (nR rs) (rC rs))))), (10, .one (.c (vI (j.ofNat (nR rs))))), (11, .one (.c (vI i)))] [(5, .loose [.own intT n cs])]) (fun (⟨i, n, cs⟩ : Int × Nat × (List C)) => nR rs - i.toNat) (fun (⟨i, n, cs⟩ : Int × Nat × (List C)) => 0 ≤ i ∧ i ≤ nR rs ∧ ∃ L : List Int, n = nI L ∧ cs = iC L ∧ L.length ≤ i ∧ L ++ ofGo left (rs.drop i.toNat) i = ofR rs left) ((0, 0, [])) (by generalize @rC = x_rC; generalize @nR = x_nR; generalize @ofR = x_ofR; generalize @sC = x_sC; generalize @iC = x_iC; generalize @nS = x_nS; generalize @nI = x_nI; cbv) ?_ (fun ⟨i, n, cs⟩ hI => ?_)
  · exact ⟨by omega, by omega, [], rfl, rfl, by simp, rfl⟩
  obtain ⟨i1, i2, L, l1, l2, l3, l4⟩ := hI
  have l5 : i < nR rs → (rAt rs i.toNat).1 = left → L ++ [i] ++ ofGo left (rs.drop (i + 1).toNat) (i + 1) = ofR rs left := fun h q => by rw [← l4, rdrop_step rs i i1 h, ofGo, if_pos q]; simp
  have l6 : i < nR rs → ¬ (rAt rs i.toNat).1 = left → L ++ ofGo left (rs.drop (i + 1).toNat) (i + 1) = ofR rs left := fun h q => by rw [← l4, rdrop_step rs i i1 h, ofGo, if_neg q]
  have l7 : ¬ i < nR rs → L = ofR rs left := fun h => by rw [← l4, rdrop_fin rs i h]; simp [ofGo]
  clear l4
  generalize y_rC : @rC = x_rC at *
  generalize y_nR : @nR = x_nR at *
  generalize y_ofR : @ofR = x_ofR at *
  generalize y_sC : @sC = x_sC at *
  generalize y_iC : @iC = x_iC at *
  generalize y_nS : @nS = x_nS at *
  generalize y_nI : @nI = x_nI at *
  (repeat' first | ((first | with_reducible refine tr_cut (fun h => ?_) (fun h => ?_) | refine aw_condj (by cbv) (fun h => ?_) (fun h => ?_)) <;> (try simp (disch := omega) only [hj, std, cmpI, cmpB, satB, Bool.not_eq_true, Bool.not_eq_false, decide_eq_true_eq, decide_eq_false_iff_not, beq_iff_eq, bne_iff_ne, bne_eq_false_iff_eq, beq_eq_false_iff_ne, ne_eq, reduceCtorEq, not_true_eq_false, not_false_eq_true, pl0, if_true, cmpS_eq, cmpS_neq, Bool.not_eq_eq_eq_not, Bool.not_true, Bool.not_false, Bool.not_eq_true', add64, sub64] at h) <;> (try (exfalso; omega))) | (with_reducible refine tr_alt (fun h => ?_) ?_ <;> (try (exfalso; omega))) | (with_reducible refine tr_ob ?_ ?_) | (with_reducible refine tr_done ?_) | (refine aw_tr hj tok book0 (by cbv) ?_) | (refine aw_seq fun K hK => ?_) | (refine aw_tr1 hj tok book0 (by cbv) ?_) | (refine aw_skip ?_) | (refine aw_block ?_) | (refine aw_exit ?_) | (refine aw_ret ⟨.inr rfl, ret_okj hj (by cbv) ?_ ?_⟩) | (refine aw_ret ?_) | (with_reducible refine th_n ?_) | (with_reducible refine th_r ?_) | (with_reducible refine th_x ?_) | (with_reducible refine blk_n ?_) | (with_reducible refine blk_r ?_) | (with_reducible refine blk_x ?_) | (with_reducible refine blk_y rfl ?_) | (refine ⟨.inr rfl, ret_okj hj (by cbv) ?_ ?_⟩) | (refine ⟨.inl rfl, ret_okj hj (by cbv) ?_ ?_⟩) | ((with_reducible refine ⟨(_, _, _, _, _, _, _), by cbv, ?_, ?_⟩)) | ((with_reducible refine ⟨(_, _, _, _, _, _), by cbv, ?_, ?_⟩)) | ((with_reducible refine ⟨(_, _, _, _, _), by cbv, ?_, ?_⟩)) | ((with_reducible refine ⟨(_, _, _, _), by cbv, ?_, ?_⟩)) | ((with_reducible refine ⟨(_, _, _), by cbv, ?_, ?_⟩)) | ((with_reducible refine ⟨(_, _), by cbv, ?_, ?_⟩)) | ((with_reducible refine ⟨_, by cbv, ?_, ?_⟩)) | (with_reducible apply_assumption -symm -exfalso only [*]))
  all_goals ((try subst y_rC); (try subst y_nR); (try subst y_ofR); (try subst y_sC); (try subst y_iC); (try subst y_nS); (try subst y_nI))
  all_goals (try have q := ‹gi (cellAt (rC rs) _) = left›)
  all_goals (try have q := ‹¬ gi (cellAt (rC rs) _) = left›)
  all_goals (try rw [gi_rC] at q)
  all_goals (have nl := nI_eq L)
  all_goals (try (repeat' first | with_reducible exact obl0 | with_reducible refine obl1 ?_ ?_))
  all_goals (try first | with_reducible exact True.intro | ((first | refine ob_le hj ?_ | refine ob_lei hj ?_ | refine ob_inb hj ?_ | refine ob_pos hj ?_ | refine ob_ne0 hj ?_ | refine ob_eqb hj ?_); (first | rfl | first | omega | (simp only [hj, std]; split <;> omega) | (simp (disch := omega) only [hj, std, cmpI, cmpB, satB, add64, sub64, ite0, pl0, pl2, pl3, sb0, if_true, if_false, eq_self, rC_len] <;> omega) | (simp (disch := omega) [hj, std, cmpI, cmpB, satB, add64, sub64, ite0, pl0, pl2, pl3, sb0, if_true, if_false, eq_self, rC_len] <;> omega))) | ((refine ob_ok hj ?_; simp only [hj, std, ite0]; first | exact ok_rC1 (by omega) | exact ok_rC0 (by omega))) | ((refine ob_le hj ?_; simp only [hj, std, ite0]; omega)) | ((refine (ret1_c (own_eq ?_ ?_)).symm; rw [l1, l7 (by assumption)]; rw [l2, l7 (by assumption)])) | ((simp (disch := omega) only [hj, std, add64]; omega)) | ((simp (disch := omega) only [hj, std, add64, ite0]; exact ⟨by omega, by omega, L, l1, l2, by omega, l6 (by assumption) q⟩)) | ((simp (disch := omega) only [hj, std, add64, ite0]; exact ⟨by omega, by omega, L ++ [i], by rw [l1, nI_eq, nI_eq, List.length_append]; rfl, by rw [l2]; exact iC_snoc L i, by rw [List.length_append, List.length_singleton]; omega, l5 (by assumption) q⟩)))
end Go.Proofs.Ytdmdcmhgfgookaa.A

/- Grammars: of two rules, are they alike; functions that are handed over. -/
set_option linter.unusedSimpArgs false
set_option linter.unusedVariables false
set_option maxRecDepth 100000
set_option maxHeartbeats 4000000
namespace Go.Proofs.Ytdmdcmhgfgookaa.A
open Go
def likeR (a b : Rl) : Bool := decide (a = b)
theorem likeR_no1 {x y : Int} {l m : List Int} (h : ¬ x = y) : likeR (x, l) (y, m) = false := by unfold likeR; rw [decide_eq_false_iff_not]; exact fun e => h (congrArg Prod.fst e)
theorem likeR_eq {x y : Int} {l m : List Int} (h : x = y) : likeR (x, l) (y, m) = sameI l m := by subst h; unfold likeR sameI; simp
def idxRGo (b : Rl) : List Rl → Int → Int
  | [], _ => -1
  | x :: l, i => if x = b then i else idxRGo b l (i + 1)
def idxR (l : List Rl) (b : Rl) : Int := idxRGo b l 0
def hasR (l : List Rl) (b : Rl) : Bool := decide (b ∈ l)
theorem idxRGo_has (b : Rl) : ∀ (l : List Rl) (i : Int), 0 ≤ i → decide (idxRGo b l i ≥ 0) = decide (b ∈ l) := by
  intro l
  induction l with
  | nil => intro i _; simp [idxRGo]
  | cons x l ih =>
    intro i hi
    unfold idxRGo
    split
    · rename_i h; subst h; simp [hi]
    · rename_i h
      rw [ih (i + 1) (by omega)]
      have : ¬ b = x := fun e => h e.symm
      simp [this]
theorem idxR_has (l : List Rl) (b : Rl) : decide (idxR l b ≥ 0) = hasR l b := idxRGo_has b l 0 (by omega)
theorem pc_like (x y : Int) (l m : List Int) (hl : nI l < 4611686018427387904) (hm2 : nI m < 4611686018427387904) : PC Try.prog T 60 [.v true [vI x, (C.sl (nI l) (iC l))], .v true [vI y, (C.sl (nI m) (iC m))]] (ret1 (.st (vB (likeR (x, l) (y, m))))) [] := by
  refine pc_of tok Try.func60 rfl (by rfl) ?_
  obtain ⟨j, hj⟩ : ∃ j : J, j = std Try.prog T := ⟨_, rfl⟩
  have hm : Try.prog.follows .mixedOrders = true := by kernel_rfl
  generalize y_intsOf : @intsOf = x_intsOf at *
  generalize y_sameI : @sameI = x_sameI at *
  generalize y_likeR : @likeR = x_likeR at *
  generalize y_iC : @iC = x_iC at *
  generalize y_nI : @nI = x_nI at *
  (repeat' first | ((first | with_reducible refine tr_cut (fun h => ?_) (fun h => ?_) | refine aw_condj (by cbv) (fun h => ?_) (fun h => ?_)) <;> (try simp (disch := omega) only [hj, std, cmpI, cmpB, satB, Bool.not_eq_true, Bool.not_eq_false, decide_eq_true_eq, decide_eq_false_iff_not, beq_iff_eq, bne_iff_ne, bne_eq_false_iff_eq, beq_eq_false_iff_ne, ne_eq, reduceCtorEq, not_true_eq_false, not_false_eq_true, pl0, if_true, cmpS_eq, cmpS_neq, Bool.not_eq_eq_eq_not, Bool.not_true, Bool.not_false, Bool.not_eq_true', add64, sub64] at h) <;> (try (exfalso; omega))) | (with_reducible refine tr_alt (fun h => ?_) ?_ <;> (try (exfalso; omega))) | (with_reducible refine tr_ob ?_ ?_) | (with_reducible refine tr_done ?_) | (refine aw_tr hj tok (bookGs x_intsOf x_sameI) (by cbv) ?_) | (refine aw_seq fun K hK => ?_) | (refine aw_tr1 hj tok (bookGs x_intsOf x_sameI) (by cbv) ?_) | (refine aw_skip ?_) | (refine aw_block ?_) | (refine aw_exit ?_) | (refine aw_ret ⟨.inr rfl, ret_okj hj (by cbv) ?_ ?_⟩) | (refine aw_ret ?_) | (with_reducible refine th_n ?_) | (with_reducible refine th_r ?_) | (with_reducible refine th_x ?_) | (with_reducible refine blk_n ?_) | (with_reducible refine blk_r ?_) | (with_reducible refine blk_x ?_) | (with_reducible refine blk_y rfl ?_) | (refine ⟨.inr rfl, ret_okj hj (by cbv) ?_ ?_⟩) | (refine ⟨.inl rfl, ret_okj hj (by cbv) ?_ ?_⟩) | ((with_reducible refine ⟨(_, _, _, _, _, _, _), by cbv, ?_, ?_⟩)) | ((with_reducible refine ⟨(_, _, _, _, _, _), by cbv, ?_, ?_⟩)) | ((with_reducible refine ⟨(_, _, _, _, _), by cbv, ?_, ?_⟩)) | ((with_reducible refine ⟨(_, _, _, _), by cbv, ?_, ?_⟩)) | ((with_reducible refine ⟨(_, _, _), by cbv, ?_, ?_⟩)) | ((with_reducible refine ⟨(_, _), by cbv, ?_, ?_⟩)) | ((with_reducible refine ⟨_, by cbv, ?_, ?_⟩)) | (with_reducible apply_assumption -symm -exfalso only [*]))
  all_goals ((try subst y_intsOf); (try subst y_sameI); (try subst y_likeR); (try subst y_iC); (try subst y_nI))
  all_goals (try (repeat' first | with_reducible exact obl0 | with_reducible refine obl1 ?_ ?_))
  all_goals (try first | with_reducible exact True.intro | (refine ob_pc hj ?_; (try rw [hj]); first | exact c_EqI (a := l) (b := m) rfl rfl rfl rfl hl hm2) | (refine ob_pcn hj ?_; (try rw [hj]); first | exact c_EqI (a := l) (b := m) rfl rfl rfl rfl hl hm2) | ((first | refine ob_le hj ?_ | refine ob_lei hj ?_ | refine ob_inb hj ?_ | refine ob_pos hj ?_ | refine ob_ne0 hj ?_ | refine ob_eqb hj ?_); (first | rfl | first | omega | (simp only [hj, std]; split <;> omega) | (simp (disch := omega) only [hj, std, cmpI, cmpB, satB, add64, sub64, ite0, pl0, pl2, pl3, sb0, if_true, if_false, eq_self] <;> omega) | (simp (disch := omega) [hj, std, cmpI, cmpB, satB, add64, sub64, ite0, pl0, pl2, pl3, sb0, if_true, if_false, eq_self] <;> omega))) | ((refine r1b ?_; exact likeR_no1 (by assumption))) | ((refine r1b ?_; rw [likeR_eq (by assumption), intsOf_iC, intsOf_iC])))
def bookGk (x_intsOf : List C → List Int) (x_rlsOf : List C → List Rl) (x_likeR : Rl → Rl → Bool) (x_idxR : List Rl → Rl → Int) (x_hasR : List Rl → Rl → Bool) : Book := fun f xs => match f, xs with
  | 60, [.v true [.val (.int .i64 x), .sl _ cs], .v true [.val (.int .i64 y), .sl _ ds]] => some (ret1 (.st (vB (x_likeR (x, x_intsOf cs) (y, x_intsOf ds)))))
  | 80, [.v true [.val (.int .i64 x), .sl _ cs], .root (.box [.st (.val (.int .i64 y)), .st (.sl m ds)])] => some (ret1 (.st (vB (x_likeR (x, x_intsOf cs) (y, x_intsOf ds)))), [.none, .box [.st (vI y), .st (.sl m ds)]])
  | 100, [.v false [.sl _ cs], .clo 80 [2], .virt (.box [.st (.val (.int .i64 y)), .st (.sl m ds)])] => some (ret1 (.st (vI (x_idxR (x_rlsOf cs) (y, x_intsOf ds)))), [.none, .none, .box [.st (vI y), .st (.sl m ds)]])
  | 79, [.v false [.sl _ cs], .clo 80 [2], .virt (.box [.st (.val (.int .i64 y)), .st (.sl m ds)])] => some (ret1 (.st (vB (x_hasR (x_rlsOf cs) (y, x_intsOf ds)))), [.none, .none, .box [.st (vI y), .st (.sl m ds)]])
  | _, _ => none
theorem c_like {x y : Int} {l k : List Int} {n m : Nat} {cs ds : List C} (h1 : n = nI l) (h2 : cs = iC l) (h3 : m = nI k) (h4 : ds = iC k) (ha : nI l < 4611686018427387904) (hb : nI k < 4611686018427387904) : pc 60 [.v true [vI x, .sl n cs], .v true [vI y, .sl m ds]] (ret1 (.st (vB (likeR (x, intsOf cs) (y, intsOf ds))))) := by
  subst h1; subst h2; subst h3; subst h4
  rw [intsOf_iC, intsOf_iC]
  exact ⟨enters Try.func60 (by kernel_rfl) (by kernel_rfl), pc_like x y l k ha hb⟩
theorem pc_tw1 (x y : Int) (l k : List Int) (ha : nI l < 4611686018427387904) (hb : nI k < 4611686018427387904) : PC Try.prog T 80 [.v true [vI x, (C.sl (nI l) (iC l))], .root (.box [.st (vI y), .st ((C.sl (nI k) (iC k)))])] (ret1 (.st (vB (likeR (x, l) (y, k))))) [.none, .box [.st (vI y), .st ((C.sl (nI k) (iC k)))]] := by
  refine pc_of tok Try.func80 rfl (by rfl) ?_
  obtain ⟨j, hj⟩ : ∃ j : J, j = std Try.prog T := ⟨_, rfl⟩
  have hm : Try.prog.follows .mixedOrders = true := by kernel_rfl
  generalize y_intsOf : @intsOf = x_intsOf at *
  generalize y_rlsOf : @rlsOf = x_rlsOf at *
  generalize y_likeR : @likeR = x_likeR at *
  generalize y_idxR : @idxR = x_idxR at *
  generalize y_hasR : @hasR = x_hasR at *
  generalize y_iC : @iC = x_iC at *
  generalize y_nI : @nI = x_nI at *
  (repeat' first | (refine ⟨.inr rfl, ret_oku hj (by cbv) (by cbv) rfl ?_ ?_ (upd_of ?_)⟩) | ((first | with_reducible refine tr_cut (fun h => ?_) (fun h => ?_) | refine aw_condj (by cbv) (fun h => ?_) (fun h => ?_)) <;> (try simp (disch := omega) only [hj, std, cmpI, cmpB, satB, Bool.not_eq_true, Bool.not_eq_false, decide_eq_true_eq, decide_eq_false_iff_not, beq_iff_eq, bne_iff_ne, bne_eq_false_iff_eq, beq_eq_false_iff_ne, ne_eq, reduceCtorEq, not_true_eq_false, not_false_eq_true, pl0, if_true, cmpS_eq, cmpS_neq, Bool.not_eq_eq_eq_not, Bool.not_true, Bool.not_false, Bool.not_eq_true', add64, sub64] at h) <;> (try (exfalso; omega))) | (with_reducible refine tr_alt (fun h => ?_) ?_ <;> (try (exfalso; omega))) | (with_reducible refine tr_ob ?_ ?_) | (with_reducible refine tr_done ?_) | (refine aw_tr hj tok (bookGk x_intsOf x_rlsOf x_likeR x_idxR x_hasR) (by cbv) ?_) | (refine aw_seq fun K hK => ?_) | (refine aw_tr1 hj tok (bookGk x_intsOf x_rlsOf x_likeR x_idxR x_hasR) (by cbv) ?_) | (refine aw_skip ?_) | (refine aw_block ?_) | (refine aw_exit ?_) | (refine aw_ret ⟨.inr rfl, ret_okj hj (by cbv) ?_ ?_⟩) | (refine aw_ret ?_) | (with_reducible refine th_n ?_) | (with_reducible refine th_r ?_) | (with_reducible refine th_x ?_) | (with_reducible refine blk_n ?_) | (with_reducible refine blk_r ?_) | (with_reducible refine blk_x ?_) | (with_reducible refine blk_y rfl ?_) | (refine ⟨.inr rfl, ret_okj hj (by cbv) ?_ ?_⟩) | (refine ⟨.inl rfl, ret_okj hj (by cbv) ?_ ?_⟩) | ((with_reducible refine ⟨(_, _, _, _, _, _, _), by cbv, ?_, ?_⟩)) | ((with_reducible refine ⟨(_, _, _, _, _, _), by cbv, ?_, ?_⟩)) | ((with_reducible refine ⟨(_, _, _, _, _), by cbv, ?_, ?_⟩)) | ((with_reducible refine ⟨(_, _, _, _), by cbv, ?_, ?_⟩)) | ((with_reducible refine ⟨(_, _, _), by cbv, ?_, ?_⟩)) | ((with_reducible refine ⟨(_, _), by cbv, ?_, ?_⟩)) | ((with_reducible refine ⟨_, by cbv, ?_, ?_⟩)) | (with_reducible apply_assumption -symm -exfalso only [*]))
  all_goals ((try subst y_intsOf); (try subst y_rlsOf); (try subst y_likeR); (try subst y_idxR); (try subst y_hasR); (try subst y_iC); (try subst y_nI))
  all_goals (try (repeat' first | with_reducible exact obl0 | with_reducible refine obl1 ?_ ?_))
  all_goals (try first | with_reducible exact True.intro | (refine ob_pc hj ?_; (try rw [hj]); first | exact c_like (l := l) (k := k) rfl rfl rfl rfl ha hb) | (refine ob_pcn hj ?_; (try rw [hj]); first | exact c_like (l := l) (k := k) rfl rfl rfl rfl ha hb) | ((first | refine ob_le hj ?_ | refine ob_lei hj ?_ | refine ob_inb hj ?_ | refine ob_pos hj ?_ | refine ob_ne0 hj ?_ | refine ob_eqb hj ?_); (first | rfl | first | omega | (simp only [hj, std]; split <;> omega) | (simp (disch := omega) only [hj, std, cmpI, cmpB, satB, add64, sub64, ite0, pl0, pl2, pl3, sb0, if_true, if_false, eq_self] <;> omega) | (simp (disch := omega) [hj, std, cmpI, cmpB, satB, add64, sub64, ite0, pl0, pl2, pl3, sb0, if_true, if_false, eq_self] <;> omega))) | ((refine r1b ?_; rw [intsOf_iC, intsOf_iC])) | ((refine upd_none (upd_box ?_ (upd_nil _)); exact rfl)))
theorem c_tw1 {x y : Int} {l k : List Int} {n m : Nat} {cs ds : List C} (h1 : n = nI l) (h2 : cs = iC l) (h3 : m = nI k) (h4 : ds = iC k) (ha : nI l < 4611686018427387904) (hb : nI k < 4611686018427387904) :
    (std Try.prog T).pc 80 [.v true [vI x, .sl n cs], .root (.box [.st (vI y), .st (.sl m ds)])] (ret1 (.st (vB (likeR (x, intsOf cs) (y, intsOf ds))))) [.none, .box [.st (vI y), .st (.sl m ds)]] := by
  subst h1; subst h2; subst h3; subst h4
  rw [intsOf_iC, intsOf_iC]
  exact ⟨enters Try.func80 (by kernel_rfl) (by kernel_rfl), pc_tw1 x y l k ha hb⟩
abbrev fnTw : FuncId := 80
theorem pc_IndexR (l : List Rl) (y : Int) (k : List Int) (hl : nR l ≤ 1000000) (hr : ∀ r ∈ l, nI r.2 < 4611686018427387904) (hk : nI k < 4611686018427387904) :
    PC Try.prog T 100 [.v false [(C.sl (nR l) (rC l))], .clo fnTw [2], .virt (.box [.st (vI y), .st ((C.sl (nI k) (iC k)))])] (ret1 (.st (vI (idxR l (y, k))))) [.none, .none, .box [.st (vI y), .st ((C.sl (nI k) (iC k)))]] := by
  refine pc_of tok Try.func100 rfl (by rfl) ?_
  obtain ⟨j, hj⟩ : ∃ j : J, j = std Try.prog T := ⟨_, rfl⟩
  have hm : Try.prog.follows .mixedOrders = true := by kernel_rfl
  have nl := nR_eq l
  generalize y_intsOf : @intsOf = x_intsOf at *
  generalize y_rlsOf : @rlsOf = x_rlsOf at *
  generalize y_likeR : @likeR = x_likeR at *
  generalize y_idxR : @idxR = x_idxR at *
  generalize y_hasR : @hasR = x_hasR at *
  generalize y_rC : @rC = x_rC at *
  generalize y_nR : @nR = x_nR at *
  generalize y_iC : @iC = x_iC at *
  generalize y_nI : @nI = x_nI at *
  (repeat' first | (refine ⟨.inr rfl, ret_oku hj (by cbv) (by cbv) rfl ?_ ?_ (upd_of ?_)⟩) | ((first | with_reducible refine tr_cut (fun h => ?_) (fun h => ?_) | refine aw_condj (by cbv) (fun h => ?_) (fun h => ?_)) <;> (try simp (disch := omega) only [hj, std, cmpI, cmpB, satB, Bool.not_eq_true, Bool.not_eq_false, decide_eq_true_eq, decide_eq_false_iff_not, beq_iff_eq, bne_iff_ne, bne_eq_false_iff_eq, beq_eq_false_iff_ne, ne_eq, reduceCtorEq, not_true_eq_false, not_false_eq_true, pl0, if_true, cmpS_eq, cmpS_neq, Bool.not_eq_eq_eq_not, Bool.not_true, Bool.not_false, Bool.not_eq_true', add64, sub64] at h) <;> (try (exfalso; omega))) | (with_reducible refine tr_alt (fun h => ?_) ?_ <;> (try (exfalso; omega))) | (with_reducible refine tr_ob ?_ ?_) | (with_reducible refine tr_done ?_) | (refine aw_tr hj tok (bookGk x_intsOf x_rlsOf x_likeR x_idxR x_hasR) (by cbv) ?_) | (refine aw_seq fun K hK => ?_) | (refine aw_tr1 hj tok (bookGk x_intsOf x_rlsOf x_likeR x_idxR x_hasR) (by cbv) ?_) | (refine aw_skip ?_) | (refine aw_block ?_) | (refine aw_exit ?_) | (refine aw_ret ⟨.inr rfl, ret_okj hj (by cbv) ?_ ?_⟩) | (refine aw_ret ?_) | (with_reducible refine th_n ?_) | (with_reducible refine th_r ?_) | (with_reducible refine th_x ?_) | (with_reducible refine blk_n ?_) | (with_reducible refine blk_r ?_) | (with_reducible refine blk_x ?_) | (with_reducible refine blk_y rfl ?_) | (refine ⟨.inr rfl, ret_okj hj (by cbv) ?_ ?_⟩) | (refine ⟨.inl rfl, ret_okj hj (by cbv) ?_ ?_⟩) | ((with_reducible refine ⟨(_, _, _, _, _, _, _), by cbv, ?_, ?_⟩)) | ((with_reducible refine ⟨(_, _, _, _, _, _), by cbv, ?_, ?_⟩)) | ((with_reducible refine ⟨(_, _, _, _, _), by cbv, ?_, ?_⟩)) | ((with_reducible refine ⟨(_, _, _, _), by cbv, ?_, ?_⟩)) | ((with_reducible refine ⟨(_, _, _), by cbv, ?_, ?_⟩)) | ((with_reducible refine ⟨(_, _), by cbv, ?_, ?_⟩)) | ((with_reducible refine ⟨_, by cbv, ?_, ?_⟩)) | (with_reducible apply_assumption -symm -exfalso only [*]))
  all_goals ((try subst y_intsOf); (try subst y_rlsOf); (try subst y_likeR); (try subst y_idxR); (try subst y_hasR); (try subst y_rC); (try subst y_nR); (try subst y_iC); (try subst y_nI))
  refine aw_lpj hj [(0, .keep), (1, .keep), (7, .keep), (8, .keep)] [] (fun (i : Int) => stOfR 19 [(0, .one (.c ((C.sl (nR l) (rC l))))), (1, .one (.fn fnTw [22])), (7, .one (.c (vI (j.ofNat (nR l))))), (8, .one (.c (vI i)))] [] [.none, .none, .box [.st (vI y), .st ((C.sl (nI k) (iC k)))]]) (fun (i : Int) => nR l - i.toNat) (fun (i : Int) => 0 ≤ i ∧ i ≤ nR l ∧ idxR l (y, k) = idxRGo (y, k) (l.drop i.toNat) i) (0) (by generalize @intsOf = x_intsOf; generalize @rlsOf = x_rlsOf; generalize @likeR = x_likeR; generalize @idxR = x_idxR; generalize @hasR = x_hasR; generalize @rC = x_rC; generalize @nR = x_nR; generalize @iC = x_iC; generalize @nI = x_nI; cbv) ?_ (fun i hI => ?_)
  · exact ⟨by omega, by omega, rfl⟩
  obtain ⟨i1, i2, i3⟩ := hI
  have i4 : ¬ i < nR l → idxR l (y, k) = -1 := fun h => by rw [i3, rdrop_fin l i h]; rfl
  have i5 : i < nR l → rAt l i.toNat = (y, k) → idxR l (y, k) = i := fun h e => by rw [i3, rdrop_step l i i1 h, idxRGo, if_pos e]
  have i6 : i < nR l → ¬ rAt l i.toNat = (y, k) → idxR l (y, k) = idxRGo (y, k) (l.drop (i + 1).toNat) (i + 1) := fun h e => by rw [i3, rdrop_step l i i1 h, idxRGo, if_neg e]
  clear i3
  generalize y_intsOf : @intsOf = x_intsOf at *
  generalize y_rlsOf : @rlsOf = x_rlsOf at *
  generalize y_likeR : @likeR = x_likeR at *
  generalize y_idxR : @idxR = x_idxR at *
  generalize y_hasR : @hasR = x_hasR at *
  generalize y_rC : @rC = x_rC at *
  generalize y_nR : @nR = x_nR at *
  generalize y_iC : @iC = x_iC at *
  generalize y_nI : @nI = x_nI at *
  (repeat' first | (refine ⟨.inr rfl, ret_oku hj (by cbv) (by cbv) rfl ?_ ?_ (upd_of ?_)⟩) | ((first | with_reducible refine tr_cut (fun h => ?_) (fun h => ?_) | refine aw_condj (by cbv) (fun h => ?_) (fun h => ?_)) <;> (try simp (disch := omega) only [hj, std, cmpI, cmpB, satB, Bool.not_eq_true, Bool.not_eq_false, decide_eq_true_eq, decide_eq_false_iff_not, beq_iff_eq, bne_iff_ne, bne_eq_false_iff_eq, beq_eq_false_iff_ne, ne_eq, reduceCtorEq, not_true_eq_false, not_false_eq_true, pl0, if_true, cmpS_eq, cmpS_neq, Bool.not_eq_eq_eq_not, Bool.not_true, Bool.not_false, Bool.not_eq_true', add64, sub64] at h) <;> (try (exfalso; omega))) | (with_reducible refine tr_alt (fun h => ?_) ?_ <;> (try (exfalso; omega))) | (with_reducible refine tr_ob ?_ ?_) | (with_reducible refine tr_done ?_) | (refine aw_tr hj tok (bookGk x_intsOf x_rlsOf x_likeR x_idxR x_hasR) (by cbv) ?_) | (refine aw_seq fun K hK => ?_) | (refine aw_tr1 hj tok (bookGk x_intsOf x_rlsOf x_likeR x_idxR x_hasR) (by cbv) ?_) | (refine aw_skip ?_) | (refine aw_block ?_) | (refine aw_exit ?_) | (refine aw_ret ⟨.inr rfl, ret_okj hj (by cbv) ?_ ?_⟩) | (refine aw_ret ?_) | (with_reducible refine th_n ?_) | (with_reducible refine th_r ?_) | (with_reducible refine th_x ?_) | (with_reducible refine blk_n ?_) | (with_reducible refine blk_r ?_) | (with_reducible refine blk_x ?_) | (with_reducible refine blk_y rfl ?_) | (refine ⟨.inr rfl, ret_okj hj (by cbv) ?_ ?_⟩) | (refine ⟨.inl rfl, ret_okj hj (by cbv) ?_ ?_⟩) | ((with_reducible refine ⟨(_, _, _, _, _, _, _), by cbv, ?_, ?_⟩)) | ((with_reducible refine ⟨(_, _, _, _, _, _), by cbv, ?_, ?_⟩)) | ((with_reducible refine ⟨(_, _, _, _, _), by cbv, ?_, ?_⟩)) | ((with_reducible refine ⟨(_, _, _, _), by cbv, ?_, ?_⟩)) | ((with_reducible refine ⟨(_, _, _), by cbv, ?_, ?_⟩)) | ((with_reducible refine ⟨(_, _), by cbv, ?_, ?_⟩)) | ((with_reducible refine ⟨_, by cbv, ?_, ?_⟩)) | (with_reducible apply_assumption -symm -exfalso only [*]))
  all_goals ((try subst y_intsOf); (try subst y_rlsOf); (try subst y_likeR); (try subst y_idxR); (try subst y_hasR); (try subst y_rC); (try subst y_nR); (try subst y_iC); (try subst y_nI))
  all_goals (try have q := ‹likeR _ _ = true›)
  all_goals (try have q := ‹likeR _ _ = false›)
  all_goals (try simp only [ite0, gi_rC, gcR, gc_rC, intsOf_iC, likeR, decide_eq_true_eq, decide_eq_false_iff_not] at q)
  all_goals (try (repeat' first | with_reducible exact obl0 | with_reducible refine obl1 ?_ ?_))
  all_goals (try first | with_reducible exact True.intro | (refine ob_pc hj ?_; (try rw [hj]); first | exact c_tw1 (l := (rAt l i.toNat).2) (k := k) (gn_rC _ _) (gc_rC _ _) rfl rfl (hr _ (rAt_mem l i (by omega) (by omega))) hk) | (refine ob_pcn hj ?_; (try rw [hj]); first | exact c_tw1 (l := (rAt l i.toNat).2) (k := k) (gn_rC _ _) (gc_rC _ _) rfl rfl (hr _ (rAt_mem l i (by omega) (by omega))) hk) | ((first | refine ob_le hj ?_ | refine ob_lei hj ?_ | refine ob_inb hj ?_ | refine ob_pos hj ?_ | refine ob_ne0 hj ?_ | refine ob_eqb hj ?_); (first | rfl | first | omega | (simp only [hj, std]; split <;> omega) | (simp (disch := omega) only [hj, std, cmpI, cmpB, satB, add64, sub64, ite0, pl0, pl2, pl3, sb0, if_true, if_false, eq_self, rC_len] <;> omega) | (simp (disch := omega) [hj, std, cmpI, cmpB, satB, add64, sub64, ite0, pl0, pl2, pl3, sb0, if_true, if_false, eq_self, rC_len] <;> omega))) | ((refine ob_ok hj ?_; simp only [hj, std, ite0]; first | exact ok_rC1 (by omega) | exact ok_rC0 (by omega))) | ((refine upd_none (upd_none (upd_box ?_ (upd_nil _))); exact rfl)) | ((refine r1i ?_; exact i4 (by omega))) | ((refine r1i ?_; exact i5 (by omega) q)) | ((simp (disch := omega) only [hj, std, add64]; first | omega | exact ⟨by omega, by omega, i6 (by omega) q⟩)))
theorem pc_ContR (l : List Rl) (y : Int) (k : List Int) (hl : nR l ≤ 1000000) (hr : ∀ r ∈ l, nI r.2 < 4611686018427387904) (hk : nI k < 4611686018427387904) :
    PC Try.prog T 79 [.v false [(C.sl (nR l) (rC l))], .clo fnTw [2], .virt (.box [.st (vI y), .st ((C.sl (nI k) (iC k)))])] (ret1 (.st (vB (hasR l (y, k))))) [.none, .none, .box [.st (vI y), .st ((C.sl (nI k) (iC k)))]] := by
  have hc : (std Try.prog T).pc 100 [.v false [(C.sl (nR l) (rC l))], .clo fnTw [2], .virt (.box [.st (vI y), .st ((C.sl (nI k) (iC k)))])] (ret1 (.st (vI (idxR (rlsOf (rC l)) (y, intsOf (iC k)))))) [.none, .none, .box [.st (vI y), .st ((C.sl (nI k) (iC k)))]] := by
    rw [rlsOf_rC, intsOf_iC]
    exact ⟨enters Try.func100 (by kernel_rfl) (by kernel_rfl), pc_IndexR l y k hl hr hk⟩
  refine pc_of tok Try.func79 rfl (by rfl) ?_
  obtain ⟨j, hj⟩ : ∃ j : J, j = std Try.prog T := ⟨_, rfl⟩
  have hm : Try.prog.follows .mixedOrders = true := by kernel_rfl
  generalize y_intsOf : @intsOf = x_intsOf at *
  generalize y_rlsOf : @rlsOf = x_rlsOf at *
  generalize y_likeR : @likeR = x_likeR at *
  generalize y_idxR : @idxR = x_idxR at *
  generalize y_hasR : @hasR = x_hasR at *
  generalize y_rC : @rC = x_rC at *
  generalize y_nR : @nR = x_nR at *
  generalize y_iC : @iC = x_iC at *
  generalize y_nI : @nI = x_nI at *
  (repeat' first | (refine ⟨.inr rfl, ret_oku hj (by cbv) (by cbv) rfl ?_ ?_ (upd_of ?_)⟩) | ((first | with_reducible refine tr_cut (fun h => ?_) (fun h => ?_) | refine aw_condj (by cbv) (fun h => ?_) (fun h => ?_)) <;> (try simp (disch := omega) only [hj, std, cmpI, cmpB, satB, Bool.not_eq_true, Bool.not_eq_false, decide_eq_true_eq, decide_eq_false_iff_not, beq_iff_eq, bne_iff_ne, bne_eq_false_iff_eq, beq_eq_false_iff_ne, ne_eq, reduceCtorEq, not_true_eq_false, not_false_eq_true, pl0, if_true, cmpS_eq, cmpS_neq, Bool.not_eq_eq_eq_not, Bool.not_true, Bool.not_false, Bool.not_eq_true', add64, sub64] at h) <;> (try (exfalso; omega))) | (with_reducible refine tr_alt (fun h => ?_) ?_ <;> (try (exfalso; omega))) | (with_reducible refine tr_ob ?_ ?_) | (with_reducible refine tr_done ?_) | (refine aw_tr hj tok (bookGk x_intsOf x_rlsOf x_likeR x_idxR x_hasR) (by cbv) ?_) | (refine aw_seq fun K hK => ?_) | (refine aw_tr1 hj tok (bookGk x_intsOf x_rlsOf x_likeR x_idxR x_hasR) (by cbv) ?_) | (refine aw_skip ?_) | (refine aw_block ?_) | (refine aw_exit ?_) | (refine aw_ret ⟨.inr rfl, ret_okj hj (by cbv) ?_ ?_⟩) | (refine aw_ret ?_) | (with_reducible refine th_n ?_) | (with_reducible refine th_r ?_) | (with_reducible refine th_x ?_) | (with_reducible refine blk_n ?_) | (with_reducible refine blk_r ?_) | (with_reducible refine blk_x ?_) | (with_reducible refine blk_y rfl ?_) | (refine ⟨.inr rfl, ret_okj hj (by cbv) ?_ ?_⟩) | (refine ⟨.inl rfl, ret_okj hj (by cbv) ?_ ?_⟩) | ((with_reducible refine ⟨(_, _, _, _, _, _, _), by cbv, ?_, ?_⟩)) | ((with_reducible refine ⟨(_, _, _, _, _, _), by cbv, ?_, ?_⟩)) | ((with_reducible refine ⟨(_, _, _, _, _), by cbv, ?_, ?_⟩)) | ((with_reducible refine ⟨(_, _, _, _), by cbv, ?_, ?_⟩)) | ((with_reducible refine ⟨(_, _, _), by cbv, ?_, ?_⟩)) | ((with_reducible refine ⟨(_, _), by cbv, ?_, ?_⟩)) | ((with_reducible refine ⟨_, by cbv, ?_, ?_⟩)) | (with_reducible apply_assumption -symm -exfalso only [*]))
  all_goals ((try subst y_intsOf); (try subst y_rlsOf); (try subst y_likeR); (try subst y_idxR); (try subst y_hasR); (try subst y_rC); (try subst y_nR); (try subst y_iC); (try subst y_nI))
  all_goals (try (repeat' first | with_reducible exact obl0 | with_reducible refine obl1 ?_ ?_))
  all_goals (try first | with_reducible exact True.intro | (refine ob_pc hj ?_; (try rw [hj]); first | exact hc) | (refine ob_pcn hj ?_; (try rw [hj]); first | exact hc) | ((first | refine ob_le hj ?_ | refine ob_lei hj ?_ | refine ob_inb hj ?_ | refine ob_pos hj ?_ | refine ob_ne0 hj ?_ | refine ob_eqb hj ?_); (first | rfl | first | omega | (simp only [hj, std]; split <;> omega) | (simp (disch := omega) only [hj, std, cmpI, cmpB, satB, add64, sub64, ite0, pl0, pl2, pl3, sb0, if_true, if_false, eq_self] <;> omega) | (simp (disch := omega) [hj, std, cmpI, cmpB, satB, add64, sub64, ite0, pl0, pl2, pl3, sb0, if_true, if_false, eq_self] <;> omega))) | ((refine r1b ?_; rw [rlsOf_rC, intsOf_iC, ← idxR_has, hj]; rfl)) | ((refine upd_none (upd_none (upd_box ?_ (upd_nil _))); exact rfl)))
theorem c_ContR {l : List Rl} {y : Int} {k : List Int} {n m : Nat} {cs ds : List C} (h1 : n = nR l) (h2 : cs = rC l) (h3 : m = nI k) (h4 : ds = iC k) (hl : nR l ≤ 1000000) (hr : ∀ r ∈ l, nI r.2 < 4611686018427387904) (hk : nI k < 4611686018427387904) :
    (std Try.prog T).pc 79 [.v false [.sl n cs], .clo fnTw [2], .virt (.box [.st (vI y), .st (.sl m ds)])] (ret1 (.st (vB (hasR (rlsOf cs) (y, intsOf ds))))) [.none, .none, .box [.st (vI y), .st (.sl m ds)]] := by
  subst h1; subst h2; subst h3; subst h4
  rw [rlsOf_rC, intsOf_iC]
  exact ⟨enters Try.func79 (by kernel_rfl) (by kernel_rfl), pc_ContR l y k hl hr hk⟩
theorem hasR_take {l : List Rl} {i : Int} (h0 : 0 ≤ i) (hi : i < nR l) (h : hasR (l.take i.toNat) (rAt l i.toNat) = true) : dupR l = true := by
  unfold hasR at h; rw [decide_eq_true_eq] at h
  obtain ⟨n, hn, e⟩ := List.mem_iff_getElem.1 h
  have hnr := nR_eq l
  have hn2 : n < i.toNat := by rw [List.length_take] at hn; omega
  have e2 : rAt l n = rAt l i.toNat := by rw [← e, List.getElem_take, rAt_get (by omega)]
  exact dupR_yes hn2 (by omega) (congrArg Prod.fst e2.symm) (congrArg Prod.snd e2.symm)
theorem hasR_not {l : List Rl} {i : Int} (h0 : 0 ≤ i) (hi : i < nR l) (h : hasR (l.take i.toNat) (rAt l i.toNat) = false) : ∀ k : Nat, k < i.toNat → rAt l i.toNat ≠ rAt l k := by
  unfold hasR at h; rw [decide_eq_false_iff_not] at h
  intro k hk e
  have hnr := nR_eq l
  refine h ?_
  rw [e]
  have hkl : k < (l.take i.toNat).length := by rw [List.length_take]; omega
  have : (l.take i.toNat)[k] = rAt l k := by rw [List.getElem_take, rAt_get (by omega)]
  rw [← this]; exact List.getElem_mem hkl
theorem take_nR (l : List Rl) {i : Int} (h0 : 0 ≤ i) (h : i ≤ nR l) : nR (l.take i.toNat) = i.toNat := by
  have := nR_eq l
  rw [nR_eq, List.length_take]; omega
theorem pc_twiceG (l : List Rl) (hl : nR l ≤ 1000000) (hr : ∀ r ∈ l, nI r.2 < 4611686018427387904) : PC Try.prog T 53 [.v false [(C.sl (nR l) (rC l))]] (ret1 (.st (vB (dupR l)))) [] := by
  refine pc_of tok Try.func53 rfl (by rfl) ?_
  obtain ⟨j, hj⟩ : ∃ j : J, j = std Try.prog T := ⟨_, rfl⟩
  have hm : Try.prog.follows .mixedOrders = true := by kernel_rfl
  have nl := nR_eq l
  generalize y_intsOf : @intsOf = x_intsOf at *
  generalize y_rlsOf : @rlsOf = x_rlsOf at *
  generalize y_likeR : @likeR = x_likeR at *
  generalize y_idxR : @idxR = x_idxR at *
  generalize y_hasR : @hasR = x_hasR at *
  generalize y_rC : @rC = x_rC at *
  generalize y_nR : @nR = x_nR at *
  generalize y_dupR : @dupR = x_dupR at *
  generalize y_nI : @nI = x_nI at *
  (repeat' first | ((first | with_reducible refine tr_cut (fun h => ?_) (fun h => ?_) | refine aw_condj (by cbv) (fun h => ?_) (fun h => ?_)) <;> (try simp (disch := omega) only [hj, std, cmpI, cmpB, satB, Bool.not_eq_true, Bool.not_eq_false, decide_eq_true_eq, decide_eq_false_iff_not, beq_iff_eq, bne_iff_ne, bne_eq_false_iff_eq, beq_eq_false_iff_ne, ne_eq, reduceCtorEq, not_true_eq_false, not_false_eq_true, pl0, if_true, cmpS_eq, cmpS_neq, Bool.not_eq_eq_eq_not, Bool.not_true, Bool.not_false, Bool.not_eq_true', add64, sub64] at h) <;> (try (exfalso; omega))) | (with_reducible refine tr_alt (fun h => ?_) ?_ <;> (try (exfalso; omega))) | (with_reducible refine tr_ob ?_ ?_) | (with_reducible refine tr_done ?_) | (refine aw_tr hj tok (bookGk x_intsOf x_rlsOf x_likeR x_idxR x_hasR) (by cbv) ?_) | (refine aw_seq fun K hK => ?_) | (refine aw_tr1 hj tok (bookGk x_intsOf x_rlsOf x_likeR x_idxR x_hasR) (by cbv) ?_) | (refine aw_skip ?_) | (refine aw_block ?_) | (refine aw_exit ?_) | (refine aw_ret ⟨.inr rfl, ret_okj hj (by cbv) ?_ ?_⟩) | (refine aw_ret ?_) | (with_reducible refine th_n ?_) | (with_reducible refine th_r ?_) | (with_reducible refine th_x ?_) | (with_reducible refine blk_n ?_) | (with_reducible refine blk_r ?_) | (with_reducible refine blk_x ?_) | (with_reducible refine blk_y rfl ?_) | (refine ⟨.inr rfl, ret_okj hj (by cbv) ?_ ?_⟩) | (refine ⟨.inl rfl, ret_okj hj (by cbv) ?_ ?_⟩) | ((with_reducible refine ⟨(_, _, _, _, _, _, _), by cbv, ?_, ?_⟩)) | ((with_reducible refine ⟨(_, _, _, _, _, _), by cbv, ?_, ?_⟩)) | ((with_reducible refine ⟨(_, _, _, _, _), by cbv, ?_, ?_⟩)) | ((with_reducible refine ⟨(_, _, _, _), by cbv, ?_, ?_⟩)) | ((with_reducible refine ⟨(_, _, _), by cbv, ?_, ?_⟩)) | ((with_reducible refine ⟨(_, _), by cbv, ?_, ?_⟩)) | ((with_reducible refine ⟨_, by cbv, ?_, ?_⟩)) | (with_reducible apply_assumption -symm -exfalso only [*]))
  all_goals ((try subst y_intsOf); (try subst y_rlsOf); (try subst y_likeR); (try subst y_idxR); (try subst y_hasR); (try subst y_rC); (try subst y_nR); (try subst y_dupR); (try subst y_nI))
  refine aw_lpj hj [(0, .keep), (5, .keep), (6, .keep), (7, .keep)] [] (fun (i : Int) => stOf 18 [(0, .one (.c ((C.sl (nR l) (rC l))))), (5, .one (.c ((C.sl (nR l) (rC l))))), (6, .one (.c (vI (j.ofNat (nR l))))), (7, .one (.c (vI i)))] []) (fun (i : Int) => nR l - i.toNat) (fun (i : Int) => 0 ≤ i ∧ i ≤ nR l ∧ ∀ n : Nat, (n : Int) < i → ∀ k : Nat, k < n → rAt l n ≠ rAt l k) (0) (by generalize @intsOf = x_intsOf; generalize @rlsOf = x_rlsOf; generalize @likeR = x_likeR; generalize @idxR = x_idxR; generalize @hasR = x_hasR; generalize @rC = x_rC; generalize @nR = x_nR; generalize @dupR = x_dupR; generalize @nI = x_nI; cbv) ?_ (fun i hI => ?_)
  · exact ⟨by omega, by omega, fun n h => by omega⟩
  obtain ⟨i1, i2, i3⟩ := hI
  generalize y_intsOf : @intsOf = x_intsOf at *
  generalize y_rlsOf : @rlsOf = x_rlsOf at *
  generalize y_likeR : @likeR = x_likeR at *
  generalize y_idxR : @idxR = x_idxR at *
  generalize y_hasR : @hasR = x_hasR at *
  generalize y_rC : @rC = x_rC at *
  generalize y_nR : @nR = x_nR at *
  generalize y_dupR : @dupR = x_dupR at *
  generalize y_nI : @nI = x_nI at *
  (repeat' first | ((first | with_reducible refine tr_cut (fun h => ?_) (fun h => ?_) | refine aw_condj (by cbv) (fun h => ?_) (fun h => ?_)) <;> (try simp (disch := omega) only [hj, std, cmpI, cmpB, satB, Bool.not_eq_true, Bool.not_eq_false, decide_eq_true_eq, decide_eq_false_iff_not, beq_iff_eq, bne_iff_ne, bne_eq_false_iff_eq, beq_eq_false_iff_ne, ne_eq, reduceCtorEq, not_true_eq_false, not_false_eq_true, pl0, if_true, cmpS_eq, cmpS_neq, Bool.not_eq_eq_eq_not, Bool.not_true, Bool.not_false, Bool.not_eq_true', add64, sub64] at h) <;> (try (exfalso; omega))) | (with_reducible refine tr_alt (fun h => ?_) ?_ <;> (try (exfalso; omega))) | (with_reducible refine tr_ob ?_ ?_) | (with_reducible refine tr_done ?_) | (refine aw_tr hj tok (bookGk x_intsOf x_rlsOf x_likeR x_idxR x_hasR) (by cbv) ?_) | (refine aw_seq fun K hK => ?_) | (refine aw_tr1 hj tok (bookGk x_intsOf x_rlsOf x_likeR x_idxR x_hasR) (by cbv) ?_) | (refine aw_skip ?_) | (refine aw_block ?_) | (refine aw_exit ?_) | (refine aw_ret ⟨.inr rfl, ret_okj hj (by cbv) ?_ ?_⟩) | (refine aw_ret ?_) | (with_reducible refine th_n ?_) | (with_reducible refine th_r ?_) | (with_reducible refine th_x ?_) | (with_reducible refine blk_n ?_) | (with_reducible refine blk_r ?_) | (with_reducible refine blk_x ?_) | (with_reducible refine blk_y rfl ?_) | (refine ⟨.inr rfl, ret_okj hj (by cbv) ?_ ?_⟩) | (refine ⟨.inl rfl, ret_okj hj (by cbv) ?_ ?_⟩) | ((with_reducible refine ⟨(_, _, _, _, _, _, _), by cbv, ?_, ?_⟩)) | ((with_reducible refine ⟨(_, _, _, _, _, _), by cbv, ?_, ?_⟩)) | ((with_reducible refine ⟨(_, _, _, _, _), by cbv, ?_, ?_⟩)) | ((with_reducible refine ⟨(_, _, _, _), by cbv, ?_, ?_⟩)) | ((with_reducible refine ⟨(_, _, _), by cbv, ?_, ?_⟩)) | ((with_reducible refine ⟨(_, _), by cbv, ?_, ?_⟩)) | ((with_reducible refine ⟨_, by cbv, ?_, ?_⟩)) | (with_reducible apply_assumption -symm -exfalso only [*]))
  all_goals ((try subst y_intsOf); (try subst y_rlsOf); (try subst y_likeR); (try subst y_idxR); (try subst y_hasR); (try subst y_rC); (try subst y_nR); (try subst y_dupR); (try subst y_nI))
  all_goals (try have q := ‹hasR _ _ = true›)
  all_goals (try have q := ‹hasR _ _ = false›)
  all_goals (try simp only [Nat.zero_mul, gi_rC, gc_rC, rC_take, rlsOf_rC, intsOf_iC] at q)
  all_goals (try (repeat' first | with_reducible exact obl0 | with_reducible refine obl1 ?_ ?_))
  all_goals (try first | with_reducible exact True.intro | (refine ob_pc hj ?_; (try rw [hj]); first | exact c_ContR (l := l.take i.toNat) (k := (rAt l i.toNat).2) (take_nR l i1 i2).symm (rC_take l _) (gn_rC _ _) (gc_rC _ _) (by rw [take_nR l i1 i2]; omega) (fun r h => hr r (List.mem_of_mem_take h)) (hr _ (rAt_mem l i (by omega) (by omega)))) | (refine ob_pcn hj ?_; (try rw [hj]); first | exact c_ContR (l := l.take i.toNat) (k := (rAt l i.toNat).2) (take_nR l i1 i2).symm (rC_take l _) (gn_rC _ _) (gc_rC _ _) (by rw [take_nR l i1 i2]; omega) (fun r h => hr r (List.mem_of_mem_take h)) (hr _ (rAt_mem l i (by omega) (by omega)))) | ((first | refine ob_le hj ?_ | refine ob_lei hj ?_ | refine ob_inb hj ?_ | refine ob_pos hj ?_ | refine ob_ne0 hj ?_ | refine ob_eqb hj ?_); (first | rfl | first | omega | (simp only [hj, std]; split <;> omega) | (simp (disch := omega) only [hj, std, cmpI, cmpB, satB, add64, sub64, ite0, pl0, pl2, pl3, sb0, if_true, if_false, eq_self, rC_len] <;> omega) | (simp (disch := omega) [hj, std, cmpI, cmpB, satB, add64, sub64, ite0, pl0, pl2, pl3, sb0, if_true, if_false, eq_self, rC_len] <;> omega))) | ((refine ob_ok hj ?_; simp only [hj, std, ite0]; first | exact ok_rC1 (by omega) | exact ok_rC0 (by omega))) | ((refine r1b ?_; exact dupR_no fun n hn => i3 n (by omega))) | ((refine r1b ?_; exact hasR_take i1 (by omega) q)) | ((simp (disch := omega) only [hj, std, add64]; first | omega | (refine ⟨by omega, by omega, fun n hn => ?_⟩; by_cases e : (n : Int) < i; exact i3 n e; obtain rfl : n = i.toNat := (by omega); exact hasR_not i1 (by omega) q))))
end Go.Proofs.Ytdmdcmhgfgookaa.A

/- Grammars: does a rule fit a grammar ? -/
set_option linter.unusedSimpArgs false
set_option linter.unusedVariables false
set_option maxRecDepth 100000
set_option maxHeartbeats 4000000
namespace Go.Proofs.Ytdmdcmhgfgookaa.A
open Go
/-! ### does a rule fit ? -/
def badI (n t : Nat) (s : Int) : Bool := decide (s ≥ n ∨ s < -(t : Int))
def idxBGo (n t : Nat) : List Int → Int → Int
  | [], _ => -1
  | x :: l, i => if badI n t x = true then i else idxBGo n t l (i + 1)
def idxB (n t : Nat) (l : List Int) : Int := idxBGo n t l 0
def hasB (n t : Nat) (l : List Int) : Bool := l.any (badI n t)
theorem idxBGo_has (n t : Nat) : ∀ (l : List Int) (i : Int), 0 ≤ i → decide (idxBGo n t l i ≥ 0) = l.any (badI n t) := by
  intro l
  induction l with
  | nil => intro i _; simp [idxBGo]
  | cons x l ih =>
    intro i hi
    unfold idxBGo
    rw [List.any_cons]
    split
    · rename_i h; simp [h, hi]
    · rename_i h
      rw [ih (i + 1) (by omega)]
      simp [h]
theorem idxB_has (n t : Nat) (l : List Int) : decide (idxB n t l ≥ 0) = hasB n t l := idxBGo_has n t l 0 (by omega)
theorem idrop_step (l : List Int) (i : Int) (h0 : 0 ≤ i) (h : i < nI l) : l.drop i.toNat = iAt l i.toNat :: l.drop (i + 1).toNat := by
  have hn := nI_eq l
  have e : (i + 1).toNat = i.toNat + 1 := by omega
  rw [e]; exact drop_cons _ (by omega)
theorem idrop_fin (l : List Int) (i : Int) (h : ¬ i < nI l) : l.drop i.toNat = [] := by
  have hn := nI_eq l
  exact List.drop_eq_nil_of_le (by omega)
def fitR (n t : Nat) (r : Rl) : Bool := decide (0 ≤ r.1 ∧ r.1 < n ∧ nI r.2 ≤ 64) && !hasB n t r.2
abbrev fnFit : FuncId := 78
def bookGf (x_intsOf : List C → List Int) (x_badI : Nat → Nat → Int → Bool) (x_idxB : Nat → Nat → List Int → Int) (x_hasB : Nat → Nat → List Int → Bool) : Book := fun f xs => match f, xs with
  | 78, [.v false [.val (.int .i64 x)], .root (.box [.st (.sl n cs), .st (.sl t ds), .st (.sl r es)])] => some (ret1 (.st (vB (x_badI n t x))), [.none, .box [.st (.sl n cs), .st (.sl t ds), .st (.sl r es)]])
  | 99, [.v false [.sl _ zs], .clo 78 [2], .virt (.box [.st (.sl n cs), .st (.sl t ds), .st (.sl r es)])] => some (ret1 (.st (vI (x_idxB n t (x_intsOf zs)))), [.none, .none, .box [.st (.sl n cs), .st (.sl t ds), .st (.sl r es)]])
  | 77, [.v false [.sl _ zs], .clo 78 [2], .virt (.box [.st (.sl n cs), .st (.sl t ds), .st (.sl r es)])] => some (ret1 (.st (vB (x_hasB n t (x_intsOf zs)))), [.none, .none, .box [.st (.sl n cs), .st (.sl t ds), .st (.sl r es)]])
  | _, _ => none
theorem c_fit1 (x : Int) (n t r : Nat) (cs ds es : List C) (hn : n ≤ 1000000) (ht : t ≤ 1000000) : (std Try.prog T).pc 78 [.v false [vI x], .root (.box [.st (.sl n cs), .st (.sl t ds), .st (.sl r es)])] (ret1 (.st (vB (badI n t x)))) [.none, .box [.st (.sl n cs), .st (.sl t ds), .st (.sl r es)]] := by
  refine ⟨enters Try.func78 (by kernel_rfl) (by kernel_rfl), pc_of tok Try.func78 rfl (by rfl) ?_⟩
  obtain ⟨j, hj⟩ : ∃ j : J, j = std Try.prog T := ⟨_, rfl⟩
  have hm : Try.prog.follows .mixedOrders = true := by kernel_rfl
  generalize y_badI : @badI = x_badI at *
  (repeat' first | (refine ⟨.inr rfl, ret_oku hj (by cbv) (by cbv) rfl ?_ ?_ (upd_of ?_)⟩) | ((first | with_reducible refine tr_cut (fun h => ?_) (fun h => ?_) | refine aw_condj (by cbv) (fun h => ?_) (fun h => ?_)) <;> (try simp (disch := omega) only [hj, std, cmpI, cmpB, satB, Bool.not_eq_true, Bool.not_eq_false, decide_eq_true_eq, decide_eq_false_iff_not, beq_iff_eq, bne_iff_ne, bne_eq_false_iff_eq, beq_eq_false_iff_ne, ne_eq, reduceCtorEq, not_true_eq_false, not_false_eq_true, pl0, if_true, cmpS_eq, cmpS_neq, Bool.not_eq_eq_eq_not, Bool.not_true, Bool.not_false, Bool.not_eq_true', add64, sub64] at h) <;> (try (exfalso; omega))) | (with_reducible refine tr_alt (fun h => ?_) ?_ <;> (try (exfalso; omega))) | (with_reducible refine tr_ob ?_ ?_) | (with_reducible refine tr_done ?_) | (refine aw_tr hj tok book0 (by cbv) ?_) | (refine aw_seq fun K hK => ?_) | (refine aw_tr1 hj tok book0 (by cbv) ?_) | (refine aw_skip ?_) | (refine aw_block ?_) | (refine aw_exit ?_) | (refine aw_ret ⟨.inr rfl, ret_okj hj (by cbv) ?_ ?_⟩) | (refine aw_ret ?_) | (with_reducible refine th_n ?_) | (with_reducible refine th_r ?_) | (with_reducible refine th_x ?_) | (with_reducible refine blk_n ?_) | (with_reducible refine blk_r ?_) | (with_reducible refine blk_x ?_) | (with_reducible refine blk_y rfl ?_) | (refine ⟨.inr rfl, ret_okj hj (by cbv) ?_ ?_⟩) | (refine ⟨.inl rfl, ret_okj hj (by cbv) ?_ ?_⟩) | ((with_reducible refine ⟨(_, _, _, _, _, _, _), by cbv, ?_, ?_⟩)) | ((with_reducible refine ⟨(_, _, _, _, _, _), by cbv, ?_, ?_⟩)) | ((with_reducible refine ⟨(_, _, _, _, _), by cbv, ?_, ?_⟩)) | ((with_reducible refine ⟨(_, _, _, _), by cbv, ?_, ?_⟩)) | ((with_reducible refine ⟨(_, _, _), by cbv, ?_, ?_⟩)) | ((with_reducible refine ⟨(_, _), by cbv, ?_, ?_⟩)) | ((with_reducible refine ⟨_, by cbv, ?_, ?_⟩)) | (with_reducible apply_assumption -symm -exfalso only [*]))
  all_goals ((try subst y_badI))
  all_goals (try (repeat' first | with_reducible exact obl0 | with_reducible refine obl1 ?_ ?_))
  all_goals (try first | with_reducible exact True.intro | ((first | refine ob_le hj ?_ | refine ob_lei hj ?_ | refine ob_inb hj ?_ | refine ob_pos hj ?_ | refine ob_ne0 hj ?_ | refine ob_eqb hj ?_); (first | rfl | first | omega | (simp only [hj, std]; split <;> omega) | (simp (disch := omega) only [hj, std, cmpI, cmpB, satB, add64, sub64, ite0, pl0, pl2, pl3, sb0, if_true, if_false, eq_self] <;> omega) | (simp (disch := omega) [hj, std, cmpI, cmpB, satB, add64, sub64, ite0, pl0, pl2, pl3, sb0, if_true, if_false, eq_self] <;> omega))) | ((refine upd_none (upd_box ?_ (upd_nil _)); exact rfl)) | ((refine r1b ?_; unfold badI; rw [decide_eq_true_eq]; exact .inl (by omega))) | ((refine r1b ?_; unfold badI; rw [hj]; show _ = decide (x < arithI .sub .i64 0 t); rw [sub64 (by omega) (by omega)]; rw [Bool.eq_iff_iff]; simp <;> omega)))
theorem pc_IndexB (l : List Int) (n t r : Nat) (cs ds es : List C) (hl : nI l ≤ 1000000) (hn : n ≤ 1000000) (ht : t ≤ 1000000) :
    PC Try.prog T 99 [.v false [(C.sl (nI l) (iC l))], .clo fnFit [2], .virt (.box [.st (.sl n cs), .st (.sl t ds), .st (.sl r es)])] (ret1 (.st (vI (idxB n t l)))) [.none, .none, .box [.st (.sl n cs), .st (.sl t ds), .st (.sl r es)]] := by
  refine pc_of tok Try.func99 rfl (by rfl) ?_
  obtain ⟨j, hj⟩ : ∃ j : J, j = std Try.prog T := ⟨_, rfl⟩
  have hm : Try.prog.follows .mixedOrders = true := by kernel_rfl
  have nl := nI_eq l
  generalize y_intsOf : @intsOf = x_intsOf at *
  generalize y_badI : @badI = x_badI at *
  generalize y_idxB : @idxB = x_idxB at *
  generalize y_hasB : @hasB = x_hasB at *
  generalize y_iC : @iC = x_iC at *
  generalize y_nI : @nI = x_nI at *
  (repeat' first | (refine ⟨.inr rfl, ret_oku hj (by cbv) (by cbv) rfl ?_ ?_ (upd_of ?_)⟩) | ((first | with_reducible refine tr_cut (fun h => ?_) (fun h => ?_) | refine aw_condj (by cbv) (fun h => ?_) (fun h => ?_)) <;> (try simp (disch := omega) only [hj, std, cmpI, cmpB, satB, Bool.not_eq_true, Bool.not_eq_false, decide_eq_true_eq, decide_eq_false_iff_not, beq_iff_eq, bne_iff_ne, bne_eq_false_iff_eq, beq_eq_false_iff_ne, ne_eq, reduceCtorEq, not_true_eq_false, not_false_eq_true, pl0, if_true, cmpS_eq, cmpS_neq, Bool.not_eq_eq_eq_not, Bool.not_true, Bool.not_false, Bool.not_eq_true', add64, sub64] at h) <;> (try (exfalso; omega))) | (with_reducible refine tr_alt (fun h => ?_) ?_ <;> (try (exfalso; omega))) | (with_reducible refine tr_ob ?_ ?_) | (with_reducible refine tr_done ?_) | (refine aw_tr hj tok (bookGf x_intsOf x_badI x_idxB x_hasB) (by cbv) ?_) | (refine aw_seq fun K hK => ?_) | (refine aw_tr1 hj tok (bookGf x_intsOf x_badI x_idxB x_hasB) (by cbv) ?_) | (refine aw_skip ?_) | (refine aw_block ?_) | (refine aw_exit ?_) | (refine aw_ret ⟨.inr rfl, ret_okj hj (by cbv) ?_ ?_⟩) | (refine aw_ret ?_) | (with_reducible refine th_n ?_) | (with_reducible refine th_r ?_) | (with_reducible refine th_x ?_) | (with_reducible refine blk_n ?_) | (with_reducible refine blk_r ?_) | (with_reducible refine blk_x ?_) | (with_reducible refine blk_y rfl ?_) | (refine ⟨.inr rfl, ret_okj hj (by cbv) ?_ ?_⟩) | (refine ⟨.inl rfl, ret_okj hj (by cbv) ?_ ?_⟩) | ((with_reducible refine ⟨(_, _, _, _, _, _, _), by cbv, ?_, ?_⟩)) | ((with_reducible refine ⟨(_, _, _, _, _, _), by cbv, ?_, ?_⟩)) | ((with_reducible refine ⟨(_, _, _, _, _), by cbv, ?_, ?_⟩)) | ((with_reducible refine ⟨(_, _, _, _), by cbv, ?_, ?_⟩)) | ((with_reducible refine ⟨(_, _, _), by cbv, ?_, ?_⟩)) | ((with_reducible refine ⟨(_, _), by cbv, ?_, ?_⟩)) | ((with_reducible refine ⟨_, by cbv, ?_, ?_⟩)) | (with_reducible apply_assumption -symm -exfalso only [*]))
  all_goals ((try subst y_intsOf); (try subst y_badI); (try subst y_idxB); (try subst y_hasB); (try subst y_iC); (try subst y_nI))
  refine aw_lpj hj [(0, .keep), (1, .keep), (7, .keep), (8, .keep)] [] (fun (i : Int) => stOfR 19 [(0, .one (.c ((C.sl (nI l) (iC l))))), (1, .one (.fn fnFit [22])), (7, .one (.c (vI (j.ofNat (nI l))))), (8, .one (.c (vI i)))] [] [.none, .none, .box [.st (.sl n cs), .st (.sl t ds), .st (.sl r es)]]) (fun (i : Int) => nI l - i.toNat) (fun (i : Int) => 0 ≤ i ∧ i ≤ nI l ∧ idxB n t l = idxBGo n t (l.drop i.toNat) i) (0) (by generalize @intsOf = x_intsOf; generalize @badI = x_badI; generalize @idxB = x_idxB; generalize @hasB = x_hasB; generalize @iC = x_iC; generalize @nI = x_nI; cbv) ?_ (fun i hI => ?_)
  · exact ⟨by omega, by omega, rfl⟩
  obtain ⟨i1, i2, i3⟩ := hI
  have i4 : ¬ i < nI l → idxB n t l = -1 := fun h => by rw [i3, idrop_fin l i h]; rfl
  have i5 : i < nI l → badI n t (iAt l i.toNat) = true → idxB n t l = i := fun h e => by rw [i3, idrop_step l i i1 h, idxBGo, if_pos e]
  have i6 : i < nI l → ¬ badI n t (iAt l i.toNat) = true → idxB n t l = idxBGo n t (l.drop (i + 1).toNat) (i + 1) := fun h e => by rw [i3, idrop_step l i i1 h, idxBGo, if_neg e]
  clear i3
  generalize y_intsOf : @intsOf = x_intsOf at *
  generalize y_badI : @badI = x_badI at *
  generalize y_idxB : @idxB = x_idxB at *
  generalize y_hasB : @hasB = x_hasB at *
  generalize y_iC : @iC = x_iC at *
  generalize y_nI : @nI = x_nI at *
  (repeat' first | (refine ⟨.inr rfl, ret_oku hj (by cbv) (by cbv) rfl ?_ ?_ (upd_of ?_)⟩) | ((first | with_reducible refine tr_cut (fun h => ?_) (fun h => ?_) | refine aw_condj (by cbv) (fun h => ?_) (fun h => ?_)) <;> (try simp (disch := omega) only [hj, std, cmpI, cmpB, satB, Bool.not_eq_true, Bool.not_eq_false, decide_eq_true_eq, decide_eq_false_iff_not, beq_iff_eq, bne_iff_ne, bne_eq_false_iff_eq, beq_eq_false_iff_ne, ne_eq, reduceCtorEq, not_true_eq_false, not_false_eq_true, pl0, if_true, cmpS_eq, cmpS_neq, Bool.not_eq_eq_eq_not, Bool.not_true, Bool.not_false, Bool.not_eq_true', add64, sub64] at h) <;> (try (exfalso; omega))) | (with_reducible refine tr_alt (fun h => ?_) ?_ <;> (try (exfalso; omega))) | (with_reducible refine tr_ob ?_ ?_) | (with_reducible refine tr_done ?_) | (refine aw_tr hj tok (bookGf x_intsOf x_badI x_idxB x_hasB) (by cbv) ?_) | (refine aw_seq fun K hK => ?_) | (refine aw_tr1 hj tok (bookGf x_intsOf x_badI x_idxB x_hasB) (by cbv) ?_) | (refine aw_skip ?_) | (refine aw_block ?_) | (refine aw_exit ?_) | (refine aw_ret ⟨.inr rfl, ret_okj hj (by cbv) ?_ ?_⟩) | (refine aw_ret ?_) | (with_reducible refine th_n ?_) | (with_reducible refine th_r ?_) | (with_reducible refine th_x ?_) | (with_reducible refine blk_n ?_) | (with_reducible refine blk_r ?_) | (with_reducible refine blk_x ?_) | (with_reducible refine blk_y rfl ?_) | (refine ⟨.inr rfl, ret_okj hj (by cbv) ?_ ?_⟩) | (refine ⟨.inl rfl, ret_okj hj (by cbv) ?_ ?_⟩) | ((with_reducible refine ⟨(_, _, _, _, _, _, _), by cbv, ?_, ?_⟩)) | ((with_reducible refine ⟨(_, _, _, _, _, _), by cbv, ?_, ?_⟩)) | ((with_reducible refine ⟨(_, _, _, _, _), by cbv, ?_, ?_⟩)) | ((with_reducible refine ⟨(_, _, _, _), by cbv, ?_, ?_⟩)) | ((with_reducible refine ⟨(_, _, _), by cbv, ?_, ?_⟩)) | ((with_reducible refine ⟨(_, _), by cbv, ?_, ?_⟩)) | ((with_reducible refine ⟨_, by cbv, ?_, ?_⟩)) | (with_reducible apply_assumption -symm -exfalso only [*]))
  all_goals ((try subst y_intsOf); (try subst y_badI); (try subst y_idxB); (try subst y_hasB); (try subst y_iC); (try subst y_nI))
  all_goals (try have q := ‹badI _ _ _ = true›)
  all_goals (try have q := ‹badI _ _ _ = false›)
  all_goals (try rw [gi_iC] at q)
  all_goals (try (repeat' first | with_reducible exact obl0 | with_reducible refine obl1 ?_ ?_))
  all_goals (try first | with_reducible exact True.intro | (refine ob_pc hj ?_; (try rw [hj]); first | exact c_fit1 _ _ _ _ _ _ _ hn ht) | (refine ob_pcn hj ?_; (try rw [hj]); first | exact c_fit1 _ _ _ _ _ _ _ hn ht) | ((first | refine ob_le hj ?_ | refine ob_lei hj ?_ | refine ob_inb hj ?_ | refine ob_pos hj ?_ | refine ob_ne0 hj ?_ | refine ob_eqb hj ?_); (first | rfl | first | omega | (simp only [hj, std]; split <;> omega) | (simp (disch := omega) only [hj, std, cmpI, cmpB, satB, add64, sub64, ite0, pl0, pl2, pl3, sb0, if_true, if_false, eq_self, iC_len] <;> omega) | (simp (disch := omega) [hj, std, cmpI, cmpB, satB, add64, sub64, ite0, pl0, pl2, pl3, sb0, if_true, if_false, eq_self, iC_len] <;> omega))) | ((refine ob_ok hj ?_; simp only [hj, std, ite0]; exact ok_iC (by omega))) | ((refine upd_none (upd_none (upd_box ?_ (upd_nil _))); exact rfl)) | ((refine r1i ?_; exact i4 (by omega))) | ((refine r1i ?_; exact i5 (by omega) q)) | ((simp (disch := omega) only [hj, std, add64]; first | omega | exact ⟨by omega, by omega, i6 (by omega) (by rw [q]; decide)⟩)))
theorem pc_ContB (l : List Int) (n t r : Nat) (cs ds es : List C) (hl : nI l ≤ 1000000) (hn : n ≤ 1000000) (ht : t ≤ 1000000) :
    PC Try.prog T 77 [.v false [(C.sl (nI l) (iC l))], .clo fnFit [2], .virt (.box [.st (.sl n cs), .st (.sl t ds), .st (.sl r es)])] (ret1 (.st (vB (hasB n t l)))) [.none, .none, .box [.st (.sl n cs), .st (.sl t ds), .st (.sl r es)]] := by
  have hc : (std Try.prog T).pc 99 [.v false [(C.sl (nI l) (iC l))], .clo fnFit [2], .virt (.box [.st (.sl n cs), .st (.sl t ds), .st (.sl r es)])] (ret1 (.st (vI (idxB n t (intsOf (iC l)))))) [.none, .none, .box [.st (.sl n cs), .st (.sl t ds), .st (.sl r es)]] := by
    rw [intsOf_iC]
    exact ⟨enters Try.func99 (by kernel_rfl) (by kernel_rfl), pc_IndexB l n t r cs ds es hl hn ht⟩
  refine pc_of tok Try.func77 rfl (by rfl) ?_
  obtain ⟨j, hj⟩ : ∃ j : J, j = std Try.prog T := ⟨_, rfl⟩
  have hm : Try.prog.follows .mixedOrders = true := by kernel_rfl
  generalize y_intsOf : @intsOf = x_intsOf at *
  generalize y_badI : @badI = x_badI at *
  generalize y_idxB : @idxB = x_idxB at *
  generalize y_hasB : @hasB = x_hasB at *
  generalize y_iC : @iC = x_iC at *
  generalize y_nI : @nI = x_nI at *
  (repeat' first | (refine ⟨.inr rfl, ret_oku hj (by cbv) (by cbv) rfl ?_ ?_ (upd_of ?_)⟩) | ((first | with_reducible refine tr_cut (fun h => ?_) (fun h => ?_) | refine aw_condj (by cbv) (fun h => ?_) (fun h => ?_)) <;> (try simp (disch := omega) only [hj, std, cmpI, cmpB, satB, Bool.not_eq_true, Bool.not_eq_false, decide_eq_true_eq, decide_eq_false_iff_not, beq_iff_eq, bne_iff_ne, bne_eq_false_iff_eq, beq_eq_false_iff_ne, ne_eq, reduceCtorEq, not_true_eq_false, not_false_eq_true, pl0, if_true, cmpS_eq, cmpS_neq, Bool.not_eq_eq_eq_not, Bool.not_true, Bool.not_false, Bool.not_eq_true', add64, sub64] at h) <;> (try (exfalso; omega))) | (with_reducible refine tr_alt (fun h => ?_) ?_ <;> (try (exfalso; omega))) | (with_reducible refine tr_ob ?_ ?_) | (with_reducible refine tr_done ?_) | (refine aw_tr hj tok (bookGf x_intsOf x_badI x_idxB x_hasB) (by cbv) ?_) | (refine aw_seq fun K hK => ?_) | (refine aw_tr1 hj tok (bookGf x_intsOf x_badI x_idxB x_hasB) (by cbv) ?_) | (refine aw_skip ?_) | (refine aw_block ?_) | (refine aw_exit ?_) | (refine aw_ret ⟨.inr rfl, ret_okj hj (by cbv) ?_ ?_⟩) | (refine aw_ret ?_) | (with_reducible refine th_n ?_) | (with_reducible refine th_r ?_) | (with_reducible refine th_x ?_) | (with_reducible refine blk_n ?_) | (with_reducible refine blk_r ?_) | (with_reducible refine blk_x ?_) | (with_reducible refine blk_y rfl ?_) | (refine ⟨.inr rfl, ret_okj hj (by cbv) ?_ ?_⟩) | (refine ⟨.inl rfl, ret_okj hj (by cbv) ?_ ?_⟩) | ((with_reducible refine ⟨(_, _, _, _, _, _, _), by cbv, ?_, ?_⟩)) | ((with_reducible refine ⟨(_, _, _, _, _, _), by cbv, ?_, ?_⟩)) | ((with_reducible refine ⟨(_, _, _, _, _), by cbv, ?_, ?_⟩)) | ((with_reducible refine ⟨(_, _, _, _), by cbv, ?_, ?_⟩)) | ((with_reducible refine ⟨(_, _, _), by cbv, ?_, ?_⟩)) | ((with_reducible refine ⟨(_, _), by cbv, ?_, ?_⟩)) | ((with_reducible refine ⟨_, by cbv, ?_, ?_⟩)) | (with_reducible apply_assumption -symm -exfalso only [*]))
  all_goals ((try subst y_intsOf); (try subst y_badI); (try subst y_idxB); (try subst y_hasB); (try subst y_iC); (try subst y_nI))
  all_goals (try (repeat' first | with_reducible exact obl0 | with_reducible refine obl1 ?_ ?_))
  all_goals (try first | with_reducible exact True.intro | (refine ob_pc hj ?_; (try rw [hj]); first | exact hc) | (refine ob_pcn hj ?_; (try rw [hj]); first | exact hc) | ((first | refine ob_le hj ?_ | refine ob_lei hj ?_ | refine ob_inb hj ?_ | refine ob_pos hj ?_ | refine ob_ne0 hj ?_ | refine ob_eqb hj ?_); (first | rfl | first | omega | (simp only [hj, std]; split <;> omega) | (simp (disch := omega) only [hj, std, cmpI, cmpB, satB, add64, sub64, ite0, pl0, pl2, pl3, sb0, if_true, if_false, eq_self] <;> omega) | (simp (disch := omega) [hj, std, cmpI, cmpB, satB, add64, sub64, ite0, pl0, pl2, pl3, sb0, if_true, if_false, eq_self] <;> omega))) | ((refine r1b ?_; rw [intsOf_iC, ← idxB_has, hj]; rfl)) | ((refine upd_none (upd_none (upd_box ?_ (upd_nil _))); exact rfl)))
theorem c_ContB {l : List Int} {m n t r : Nat} {zs cs ds es : List C} (h1 : m = nI l) (h2 : zs = iC l) (hl : nI l ≤ 1000000) (hn : n ≤ 1000000) (ht : t ≤ 1000000) :
    (std Try.prog T).pc 77 [.v false [.sl m zs], .clo fnFit [2], .virt (.box [.st (.sl n cs), .st (.sl t ds), .st (.sl r es)])] (ret1 (.st (vB (hasB n t (intsOf zs))))) [.none, .none, .box [.st (.sl n cs), .st (.sl t ds), .st (.sl r es)]] := by
  subst h1; subst h2
  rw [intsOf_iC]
  exact ⟨enters Try.func77 (by kernel_rfl) (by kernel_rfl), pc_ContB l n t r cs ds es hl hn ht⟩
theorem fit_no1 {n t : Nat} {x : Int} {l : List Int} (h : ¬ (0 ≤ x ∧ x < n ∧ nI l ≤ 64)) : fitR n t (x, l) = false := by unfold fitR; rw [decide_eq_false h]; rfl
theorem fit_yes {n t : Nat} {x : Int} {l : List Int} (h : 0 ≤ x ∧ x < n ∧ nI l ≤ 64) : fitR n t (x, l) = !hasB n t l := by unfold fitR; rw [decide_eq_true h]; rfl
theorem c_fits {ns ts : List ByteArray} {rs : List Rl} {x : Int} {l : List Int} {m : Nat} {zs : List C} (h1 : m = nI l) (h2 : zs = iC l) (hl : nI l ≤ 1000000) (hn : nS ns ≤ 1000000) (ht : nS ts ≤ 1000000) :
    pc 52 [.v true [(C.sl (nS ns) (sC ns)), (C.sl (nS ts) (sC ts)), (C.sl (nR rs) (rC rs))], .v true [vI x, .sl m zs]] (ret1 (.st (vB (fitR (nS ns) (nS ts) (x, intsOf zs))))) := by
  subst h1; subst h2
  refine ⟨enters Try.func52 (by kernel_rfl) (by kernel_rfl), pc_of tok Try.func52 rfl (by rfl) ?_⟩
  rw [intsOf_iC]
  obtain ⟨j, hj⟩ : ∃ j : J, j = std Try.prog T := ⟨_, rfl⟩
  have hm : Try.prog.follows .mixedOrders = true := by kernel_rfl
  generalize y_intsOf : @intsOf = x_intsOf at *
  generalize y_badI : @badI = x_badI at *
  generalize y_idxB : @idxB = x_idxB at *
  generalize y_hasB : @hasB = x_hasB at *
  generalize y_rC : @rC = x_rC at *
  generalize y_nR : @nR = x_nR at *
  generalize y_fitR : @fitR = x_fitR at *
  generalize y_sC : @sC = x_sC at *
  generalize y_iC : @iC = x_iC at *
  generalize y_nS : @nS = x_nS at *
  generalize y_nI : @nI = x_nI at *
  (repeat' first | ((first | with_reducible refine tr_cut (fun h => ?_) (fun h => ?_) | refine aw_condj (by cbv) (fun h => ?_) (fun h => ?_)) <;> (try simp (disch := omega) only [hj, std, cmpI, cmpB, satB, Bool.not_eq_true, Bool.not_eq_false, decide_eq_true_eq, decide_eq_false_iff_not, beq_iff_eq, bne_iff_ne, bne_eq_false_iff_eq, beq_eq_false_iff_ne, ne_eq, reduceCtorEq, not_true_eq_false, not_false_eq_true, pl0, if_true, cmpS_eq, cmpS_neq, Bool.not_eq_eq_eq_not, Bool.not_true, Bool.not_false, Bool.not_eq_true', add64, sub64] at h) <;> (try (exfalso; omega))) | (with_reducible refine tr_alt (fun h => ?_) ?_ <;> (try (exfalso; omega))) | (with_reducible refine tr_ob ?_ ?_) | (with_reducible refine tr_done ?_) | (refine aw_tr hj tok (bookGf x_intsOf x_badI x_idxB x_hasB) (by cbv) ?_) | (refine aw_seq fun K hK => ?_) | (refine aw_tr1 hj tok (bookGf x_intsOf x_badI x_idxB x_hasB) (by cbv) ?_) | (refine aw_skip ?_) | (refine aw_block ?_) | (refine aw_exit ?_) | (refine aw_ret ⟨.inr rfl, ret_okj hj (by cbv) ?_ ?_⟩) | (refine aw_ret ?_) | (with_reducible refine th_n ?_) | (with_reducible refine th_r ?_) | (with_reducible refine th_x ?_) | (with_reducible refine blk_n ?_) | (with_reducible refine blk_r ?_) | (with_reducible refine blk_x ?_) | (with_reducible refine blk_y rfl ?_) | (refine ⟨.inr rfl, ret_okj hj (by cbv) ?_ ?_⟩) | (refine ⟨.inl rfl, ret_okj hj (by cbv) ?_ ?_⟩) | ((with_reducible refine ⟨(_, _, _, _, _, _, _), by cbv, ?_, ?_⟩)) | ((with_reducible refine ⟨(_, _, _, _, _, _), by cbv, ?_, ?_⟩)) | ((with_reducible refine ⟨(_, _, _, _, _), by cbv, ?_, ?_⟩)) | ((with_reducible refine ⟨(_, _, _, _), by cbv, ?_, ?_⟩)) | ((with_reducible refine ⟨(_, _, _), by cbv, ?_, ?_⟩)) | ((with_reducible refine ⟨(_, _), by cbv, ?_, ?_⟩)) | ((with_reducible refine ⟨_, by cbv, ?_, ?_⟩)) | (with_reducible apply_assumption -symm -exfalso only [*]))
  all_goals ((try subst y_intsOf); (try subst y_badI); (try subst y_idxB); (try subst y_hasB); (try subst y_rC); (try subst y_nR); (try subst y_fitR); (try subst y_sC); (try subst y_iC); (try subst y_nS); (try subst y_nI))
  all_goals (try (repeat' first | with_reducible exact obl0 | with_reducible refine obl1 ?_ ?_))
  all_goals (try first | with_reducible exact True.intro | (refine ob_pc hj ?_; (try rw [hj]); first | exact c_ContB (l := l) rfl rfl hl hn ht) | (refine ob_pcn hj ?_; (try rw [hj]); first | exact c_ContB (l := l) rfl rfl hl hn ht) | ((first | refine ob_le hj ?_ | refine ob_lei hj ?_ | refine ob_inb hj ?_ | refine ob_pos hj ?_ | refine ob_ne0 hj ?_ | refine ob_eqb hj ?_); (first | rfl | first | omega | (simp only [hj, std]; split <;> omega) | (simp (disch := omega) only [hj, std, cmpI, cmpB, satB, add64, sub64, ite0, pl0, pl2, pl3, sb0, if_true, if_false, eq_self] <;> omega) | (simp (disch := omega) [hj, std, cmpI, cmpB, satB, add64, sub64, ite0, pl0, pl2, pl3, sb0, if_true, if_false, eq_self] <;> omega))) | ((refine r1b ?_; exact fit_no1 (by omega))) | ((refine r1b ?_; rw [fit_yes (by omega), intsOf_iC, hj]; rfl)))
end Go.Proofs.Ytdmdcmhgfgookaa.A

/- Grammars: which may be, by the program. -/
set_option linter.unusedSimpArgs false
set_option linter.unusedVariables false
set_option maxRecDepth 100000
set_option maxHeartbeats 4000000
namespace Go.Proofs.Ytdmdcmhgfgookaa.A
open Go
/-- nothing in a grammar is huge -/
structure Sml (ns ts : List ByteArray) (rs : List Rl) : Prop where
  n : nS ns ≤ 1000000
  t : nS ts ≤ 1000000
  r : nR rs ≤ 1000000
  i : ∀ r ∈ rs, nI r.2 ≤ 1000000
  s : ∀ s ∈ ns, s.size ≤ 1000000
  u : ∀ s ∈ ts, s.size ≤ 1000000
def validG (ns ts : List ByteArray) (rs : List Rl) : Bool :=
  decide (1 ≤ nS ns ∧ nS ns + nS ts ≤ 256 ∧ nR rs ≤ 4096) && (dstS nameI ns && (dstS termI ts && (rs.all (fitR (nS ns) (nS ts)) && ((List.range (nS ns)).all (fun i => rs.any fun r => decide (r.1 = (i : Int))) && !dupR rs))))
theorem validG_iff {ns ts : List ByteArray} {rs : List Rl} : validG ns ts rs = true ↔ (1 ≤ nS ns ∧ nS ns + nS ts ≤ 256 ∧ nR rs ≤ 4096) ∧ dstS nameI ns = true ∧ dstS termI ts = true ∧ (∀ r ∈ rs, fitR (nS ns) (nS ts) r = true) ∧ (∀ i : Nat, i < nS ns → ∃ r ∈ rs, r.1 = (i : Int)) ∧ dupR rs = false := by
  unfold validG
  simp only [Bool.and_eq_true, decide_eq_true_eq, List.all_eq_true, List.mem_range, List.any_eq_true, Bool.not_eq_true']
theorem valid_no {ns ts : List ByteArray} {rs : List Rl} (h : ¬ ((1 ≤ nS ns ∧ nS ns + nS ts ≤ 256 ∧ nR rs ≤ 4096) ∧ dstS nameI ns = true ∧ dstS termI ts = true ∧ (∀ r ∈ rs, fitR (nS ns) (nS ts) r = true) ∧ (∀ i : Nat, i < nS ns → ∃ r ∈ rs, r.1 = (i : Int)) ∧ dupR rs = false)) : validG ns ts rs = false := by
  cases e : validG ns ts rs with
  | false => rfl
  | true => exact absurd (validG_iff.1 e) h
section
variable {ns ts : List ByteArray} {rs : List Rl}
theorem valid_no1 (h : ¬ (1 ≤ nS ns ∧ nS ns + nS ts ≤ 256 ∧ nR rs ≤ 4096)) : validG ns ts rs = false := valid_no fun hh => h hh.1
theorem valid_no2 (h : dstS nameI ns = false) : validG ns ts rs = false := valid_no fun hh => by rw [hh.2.1] at h; cases h
theorem valid_no3 (h : dstS termI ts = false) : validG ns ts rs = false := valid_no fun hh => by rw [hh.2.2.1] at h; cases h
theorem valid_no4 {i : Int} (h0 : 0 ≤ i) (hi : i < nR rs) (h : fitR (nS ns) (nS ts) (rAt rs i.toNat) = false) : validG ns ts rs = false := valid_no fun hh => by rw [hh.2.2.2.1 _ (rAt_mem rs i h0 hi)] at h; cases h
theorem valid_no5 {i : Int} (h0 : 0 ≤ i) (hi : i < nS ns) (h : ∀ r ∈ rs, r.1 ≠ i) : validG ns ts rs = false := valid_no fun hh => by
  obtain ⟨r, hr, e⟩ := hh.2.2.2.2.1 i.toNat (by omega)
  exact h r hr (by omega)
theorem valid_at (h1 : 1 ≤ nS ns ∧ nS ns + nS ts ≤ 256 ∧ nR rs ≤ 4096) (h2 : dstS nameI ns = true) (h3 : dstS termI ts = true) (h4 : ∀ n : Nat, n < nR rs → fitR (nS ns) (nS ts) (rAt rs n) = true) (h5 : ∀ n : Nat, n < nS ns → ∃ r ∈ rs, r.1 = (n : Int)) : validG ns ts rs = !dupR rs := by
  rw [Bool.eq_iff_iff, validG_iff, Bool.not_eq_true']
  exact ⟨fun h => h.2.2.2.2.2, fun h => ⟨h1, h2, h3, fun r hr => by obtain ⟨n, hn, rfl⟩ := mem_rAt hr; exact h4 n hn, h5, h⟩⟩
end
def bookGv (x_intsOf : List C → List Int) (x_rlsOf : List C → List Rl) (x_dupR : List Rl → Bool) (x_dstS : (ByteArray → Bool) → List ByteArray → Bool) (x_ofR : List Rl → Int → List Int) (x_fitR : Nat → Nat → Rl → Bool) (x_iC : List Int → List C) (x_nI : List Int → Nat) (x_strsOf : List C → List ByteArray) (x_nameI : ByteArray → Bool) (x_termI : ByteArray → Bool) : Book := fun f xs => match f, xs with
  | 49, [.v false [.sl _ cs], .fn 50] => some (ret1 (.st (vB (x_dstS x_nameI (x_strsOf cs)))))
  | 49, [.v false [.sl _ cs], .fn 51] => some (ret1 (.st (vB (x_dstS x_termI (x_strsOf cs)))))
  | 52, [.v true [.sl n _, .sl t _, .sl _ _], .v true [.val (.int .i64 x), .sl _ zs]] => some (ret1 (.st (vB (x_fitR n t (x, x_intsOf zs)))))
  | 26, [.v true [.sl _ _, .sl _ _, .sl _ cs], .v false [.val (.int .i64 a)]] => some (ret1 (.own intT (x_nI (x_ofR (x_rlsOf cs) a)) (x_iC (x_ofR (x_rlsOf cs) a))))
  | 53, [.v false [.sl _ cs]] => some (ret1 (.st (vB (x_dupR (x_rlsOf cs)))))
  | _, _ => none
theorem c_dstN {l : List ByteArray} (hl : nS l ≤ 1000000) (hs : ∀ s ∈ l, s.size ≤ 1000000) : pc 49 [.v false [(C.sl (nS l) (sC l))], .fn 50] (ret1 (.st (vB (dstS nameI (strsOf (sC l)))))) := by
  rw [strsOf_sC]
  exact ⟨enters Try.func49 (by kernel_rfl) (by kernel_rfl), pc_distinct l _ nameI hl fun s h => c_IsName (hs s h)⟩
theorem c_dstT {l : List ByteArray} (hl : nS l ≤ 1000000) (hs : ∀ s ∈ l, s.size ≤ 1000000) : pc 49 [.v false [(C.sl (nS l) (sC l))], .fn 51] (ret1 (.st (vB (dstS termI (strsOf (sC l)))))) := by
  rw [strsOf_sC]
  exact ⟨enters Try.func49 (by kernel_rfl) (by kernel_rfl), pc_distinct l _ termI hl fun s h => c_IsTerm (hs s h)⟩
theorem c_OfG {ns ts : List ByteArray} {rs : List Rl} {a : Int} (h : nR rs ≤ 1000000) : pc 26 [.v true [(C.sl (nS ns) (sC ns)), (C.sl (nS ts) (sC ts)), (C.sl (nR rs) (rC rs))], .v false [vI a]] (ret1 (.own intT (nI (ofR (rlsOf (rC rs)) a)) (iC (ofR (rlsOf (rC rs)) a)))) := by
  rw [rlsOf_rC]
  exact ⟨enters Try.func26 (by kernel_rfl) (by kernel_rfl), pc_Of ns ts rs a h⟩
theorem c_twG {rs : List Rl} (h : nR rs ≤ 1000000) (hr : ∀ r ∈ rs, nI r.2 ≤ 1000000) : pc 53 [.v false [(C.sl (nR rs) (rC rs))]] (ret1 (.st (vB (dupR (rlsOf (rC rs)))))) := by
  rw [rlsOf_rC]
  exact ⟨enters Try.func53 (by kernel_rfl) (by kernel_rfl), pc_twiceG rs h fun r hh => by have := hr r hh; omega⟩
theorem ofR_len0 {rs : List Rl} {a : Int} : (nI (ofR rs a) : Int) = 0 ↔ ∀ r ∈ rs, r.1 ≠ a := by
  rw [nI_eq]
  unfold ofR
  rw [← ofGo_nil rs 0]
  simp
theorem pc_ValidG (ns ts : List ByteArray) (rs : List Rl) (hS : Sml ns ts rs) : PC Try.prog T 23 [.v true [(C.sl (nS ns) (sC ns)), (C.sl (nS ts) (sC ts)), (C.sl (nR rs) (rC rs))]] (ret1 (.st (vB (validG ns ts rs)))) [] := by
  have ha := hS.n; have hb := hS.t; have hc := hS.r
  refine pc_of tok Try.func23 rfl (by rfl) ?_
  obtain ⟨j, hj⟩ : ∃ j : J, j = std Try.prog T := ⟨_, rfl⟩
  have hm : Try.prog.follows .mixedOrders = true := by kernel_rfl
  generalize y_intsOf : @intsOf = x_intsOf at *
  generalize y_rlsOf : @rlsOf = x_rlsOf at *
  generalize y_dupR : @dupR = x_dupR at *
  generalize y_dstS : @dstS = x_dstS at *
  generalize y_ofR : @ofR = x_ofR at *
  generalize y_fitR : @fitR = x_fitR at *
  generalize y_iC : @iC = x_iC at *
  generalize y_nI : @nI = x_nI at *
  generalize y_strsOf : @strsOf = x_strsOf at *
  generalize y_nameI : @nameI = x_nameI at *
  generalize y_termI : @termI = x_termI at *
  generalize y_rC : @rC = x_rC at *
  generalize y_nR : @nR = x_nR at *
  generalize y_validG : @validG = x_validG at *
  generalize y_sC : @sC = x_sC at *
  generalize y_nS : @nS = x_nS at *
  (repeat' first | ((first | with_reducible refine tr_cut (fun h => ?_) (fun h => ?_) | refine aw_condj (by cbv) (fun h => ?_) (fun h => ?_)) <;> (try simp (disch := omega) only [hj, std, cmpI, cmpB, satB, Bool.not_eq_true, Bool.not_eq_false, decide_eq_true_eq, decide_eq_false_iff_not, beq_iff_eq, bne_iff_ne, bne_eq_false_iff_eq, beq_eq_false_iff_ne, ne_eq, reduceCtorEq, not_true_eq_false, not_false_eq_true, pl0, if_true, cmpS_eq, cmpS_neq, Bool.not_eq_eq_eq_not, Bool.not_true, Bool.not_false, Bool.not_eq_true', add64, sub64] at h) <;> (try (exfalso; omega))) | (with_reducible refine tr_alt (fun h => ?_) ?_ <;> (try (exfalso; omega))) | (with_reducible refine tr_ob ?_ ?_) | (with_reducible refine tr_done ?_) | (refine aw_tr hj tok (bookGv x_intsOf x_rlsOf x_dupR x_dstS x_ofR x_fitR x_iC x_nI x_strsOf x_nameI x_termI) (by cbv) ?_) | (refine aw_seq fun K hK => ?_) | (refine aw_tr1 hj tok (bookGv x_intsOf x_rlsOf x_dupR x_dstS x_ofR x_fitR x_iC x_nI x_strsOf x_nameI x_termI) (by cbv) ?_) | (refine aw_skip ?_) | (refine aw_block ?_) | (refine aw_exit ?_) | (refine aw_ret ⟨.inr rfl, ret_okj hj (by cbv) ?_ ?_⟩) | (refine aw_ret ?_) | (with_reducible refine th_n ?_) | (with_reducible refine th_r ?_) | (with_reducible refine th_x ?_) | (with_reducible refine blk_n ?_) | (with_reducible refine blk_r ?_) | (with_reducible refine blk_x ?_) | (with_reducible refine blk_y rfl ?_) | (refine ⟨.inr rfl, ret_okj hj (by cbv) ?_ ?_⟩) | (refine ⟨.inl rfl, ret_okj hj (by cbv) ?_ ?_⟩) | ((with_reducible refine ⟨(_, _, _, _, _, _, _), by cbv, ?_, ?_⟩)) | ((with_reducible refine ⟨(_, _, _, _, _, _), by cbv, ?_, ?_⟩)) | ((with_reducible refine ⟨(_, _, _, _, _), by cbv, ?_, ?_⟩)) | ((with_reducible refine ⟨(_, _, _, _), by cbv, ?_, ?_⟩)) | ((with_reducible refine ⟨(_, _, _), by cbv, ?_, ?_⟩)) | ((with_reducible refine ⟨(_, _), by cbv, ?_, ?_⟩)) | ((with_reducible refine ⟨_, by cbv, ?_, ?_⟩)) | (with_reducible apply_assumption -symm -exfalso only [*]))
  all_goals ((try subst y_intsOf); (try subst y_rlsOf); (try subst y_dupR); (try subst y_dstS); (try subst y_ofR); (try subst y_fitR); (try subst y_iC); (try subst y_nI); (try subst y_strsOf); (try subst y_nameI); (try subst y_termI); (try subst y_rC); (try subst y_nR); (try subst y_validG); (try subst y_sC); (try subst y_nS))
  all_goals (try have q1 := ‹dstS nameI _ = true›)
  all_goals (try have q1 := ‹dstS nameI _ = false›)
  all_goals (try rw [strsOf_sC] at q1)
  all_goals (try have q2 := ‹dstS termI _ = true›)
  all_goals (try have q2 := ‹dstS termI _ = false›)
  all_goals (try rw [strsOf_sC] at q2)
  all_goals (try (repeat' first | with_reducible exact obl0 | with_reducible refine obl1 ?_ ?_))
  all_goals (try first | with_reducible exact True.intro | (refine ob_pc hj ?_; (try rw [hj]); first | exact c_dstN ha hS.s | exact c_dstT hb hS.u) | (refine ob_pcn hj ?_; (try rw [hj]); first | exact c_dstN ha hS.s | exact c_dstT hb hS.u) | ((first | refine ob_le hj ?_ | refine ob_lei hj ?_ | refine ob_inb hj ?_ | refine ob_pos hj ?_ | refine ob_ne0 hj ?_ | refine ob_eqb hj ?_); (first | rfl | first | omega | (simp only [hj, std]; split <;> omega) | (simp (disch := omega) only [hj, std, cmpI, cmpB, satB, add64, sub64, ite0, pl0, pl2, pl3, sb0, if_true, if_false, eq_self] <;> omega) | (simp (disch := omega) [hj, std, cmpI, cmpB, satB, add64, sub64, ite0, pl0, pl2, pl3, sb0, if_true, if_false, eq_self] <;> omega))) | ((refine r1b ?_; exact valid_no1 (by omega))) | ((refine r1b ?_; exact valid_no2 q1)) | ((refine r1b ?_; exact valid_no3 q2)))
  refine aw_lpj hj [(1, .keep), (37, .keep), (38, .keep), (39, .keep)] [1] (fun (i : Int) => stOf 64 [(1, .one (.ptr 1 0)), (37, .one (.c ((C.sl (nR rs) (rC rs))))), (38, .one (.c (vI (j.ofNat (nR rs))))), (39, .one (.c (vI i)))] [(1, .box [.st ((C.sl (nS ns) (sC ns))), .st ((C.sl (nS ts) (sC ts))), .st ((C.sl (nR rs) (rC rs)))])]) (fun (i : Int) => nR rs - i.toNat) (fun (i : Int) => 0 ≤ i ∧ i ≤ nR rs ∧ ∀ n : Nat, (n : Int) < i → fitR (nS ns) (nS ts) (rAt rs n) = true) (0) (by generalize @intsOf = x_intsOf; generalize @rlsOf = x_rlsOf; generalize @dupR = x_dupR; generalize @dstS = x_dstS; generalize @ofR = x_ofR; generalize @fitR = x_fitR; generalize @iC = x_iC; generalize @nI = x_nI; generalize @strsOf = x_strsOf; generalize @nameI = x_nameI; generalize @termI = x_termI; generalize @rC = x_rC; generalize @nR = x_nR; generalize @validG = x_validG; generalize @sC = x_sC; generalize @nS = x_nS; cbv) ?_ (fun i hI => ?_)
  · exact ⟨by omega, by omega, fun n h => by omega⟩
  obtain ⟨i1, i2, i3⟩ := hI
  have nr := nR_eq rs
  generalize y_intsOf : @intsOf = x_intsOf at *
  generalize y_rlsOf : @rlsOf = x_rlsOf at *
  generalize y_dupR : @dupR = x_dupR at *
  generalize y_dstS : @dstS = x_dstS at *
  generalize y_ofR : @ofR = x_ofR at *
  generalize y_fitR : @fitR = x_fitR at *
  generalize y_iC : @iC = x_iC at *
  generalize y_nI : @nI = x_nI at *
  generalize y_strsOf : @strsOf = x_strsOf at *
  generalize y_nameI : @nameI = x_nameI at *
  generalize y_termI : @termI = x_termI at *
  generalize y_rC : @rC = x_rC at *
  generalize y_nR : @nR = x_nR at *
  generalize y_validG : @validG = x_validG at *
  generalize y_sC : @sC = x_sC at *
  generalize y_nS : @nS = x_nS at *
  (repeat' first | ((first | with_reducible refine tr_cut (fun h => ?_) (fun h => ?_) | refine aw_condj (by cbv) (fun h => ?_) (fun h => ?_)) <;> (try simp (disch := omega) only [hj, std, cmpI, cmpB, satB, Bool.not_eq_true, Bool.not_eq_false, decide_eq_true_eq, decide_eq_false_iff_not, beq_iff_eq, bne_iff_ne, bne_eq_false_iff_eq, beq_eq_false_iff_ne, ne_eq, reduceCtorEq, not_true_eq_false, not_false_eq_true, pl0, if_true, cmpS_eq, cmpS_neq, Bool.not_eq_eq_eq_not, Bool.not_true, Bool.not_false, Bool.not_eq_true', add64, sub64] at h) <;> (try (exfalso; omega))) | (with_reducible refine tr_alt (fun h => ?_) ?_ <;> (try (exfalso; omega))) | (with_reducible refine tr_ob ?_ ?_) | (with_reducible refine tr_done ?_) | (refine aw_tr hj tok (bookGv x_intsOf x_rlsOf x_dupR x_dstS x_ofR x_fitR x_iC x_nI x_strsOf x_nameI x_termI) (by cbv) ?_) | (refine aw_seq fun K hK => ?_) | (refine aw_tr1 hj tok (bookGv x_intsOf x_rlsOf x_dupR x_dstS x_ofR x_fitR x_iC x_nI x_strsOf x_nameI x_termI) (by cbv) ?_) | (refine aw_skip ?_) | (refine aw_block ?_) | (refine aw_exit ?_) | (refine aw_ret ⟨.inr rfl, ret_okj hj (by cbv) ?_ ?_⟩) | (refine aw_ret ?_) | (with_reducible refine th_n ?_) | (with_reducible refine th_r ?_) | (with_reducible refine th_x ?_) | (with_reducible refine blk_n ?_) | (with_reducible refine blk_r ?_) | (with_reducible refine blk_x ?_) | (with_reducible refine blk_y rfl ?_) | (refine ⟨.inr rfl, ret_okj hj (by cbv) ?_ ?_⟩) | (refine ⟨.inl rfl, ret_okj hj (by cbv) ?_ ?_⟩) | ((with_reducible refine ⟨(_, _, _, _, _, _, _), by cbv, ?_, ?_⟩)) | ((with_reducible refine ⟨(_, _, _, _, _, _), by cbv, ?_, ?_⟩)) | ((with_reducible refine ⟨(_, _, _, _, _), by cbv, ?_, ?_⟩)) | ((with_reducible refine ⟨(_, _, _, _), by cbv, ?_, ?_⟩)) | ((with_reducible refine ⟨(_, _, _), by cbv, ?_, ?_⟩)) | ((with_reducible refine ⟨(_, _), by cbv, ?_, ?_⟩)) | ((with_reducible refine ⟨_, by cbv, ?_, ?_⟩)) | (with_reducible apply_assumption -symm -exfalso only [*]))
  all_goals ((try subst y_intsOf); (try subst y_rlsOf); (try subst y_dupR); (try subst y_dstS); (try subst y_ofR); (try subst y_fitR); (try subst y_iC); (try subst y_nI); (try subst y_strsOf); (try subst y_nameI); (try subst y_termI); (try subst y_rC); (try subst y_nR); (try subst y_validG); (try subst y_sC); (try subst y_nS))
  all_goals (try have q := ‹fitR _ _ _ = true›)
  all_goals (try have q := ‹fitR _ _ _ = false›)
  all_goals (try simp only [gi_rC, gc_rC, intsOf_iC] at q)
  all_goals (try (repeat' first | with_reducible exact obl0 | with_reducible refine obl1 ?_ ?_))
  all_goals (try first | with_reducible exact True.intro | (refine ob_pc hj ?_; (try rw [hj]); first | exact c_fits (l := (rAt rs i.toNat).2) (gn_rC _ _) (gc_rC _ _) (hS.i _ (rAt_mem rs i i1 (by omega))) ha hb) | (refine ob_pcn hj ?_; (try rw [hj]); first | exact c_fits (l := (rAt rs i.toNat).2) (gn_rC _ _) (gc_rC _ _) (hS.i _ (rAt_mem rs i i1 (by omega))) ha hb) | ((first | refine ob_le hj ?_ | refine ob_lei hj ?_ | refine ob_inb hj ?_ | refine ob_pos hj ?_ | refine ob_ne0 hj ?_ | refine ob_eqb hj ?_); (first | rfl | first | omega | (simp only [hj, std]; split <;> omega) | (simp (disch := omega) only [hj, std, cmpI, cmpB, satB, add64, sub64, ite0, pl0, pl2, pl3, sb0, if_true, if_false, eq_self, rC_len] <;> omega) | (simp (disch := omega) [hj, std, cmpI, cmpB, satB, add64, sub64, ite0, pl0, pl2, pl3, sb0, if_true, if_false, eq_self, rC_len] <;> omega))) | ((refine ob_ok hj ?_; simp only [hj, std, ite0]; first | exact ok_rC1 (by omega) | exact ok_rC0 (by omega))) | ((refine r1b ?_; exact valid_no4 i1 (by omega) q)) | ((simp (disch := omega) only [hj, std, add64]; first | omega | (refine ⟨by omega, by omega, fun n hn => ?_⟩; by_cases e : (n : Int) < i; exact i3 n e; obtain rfl : n = i.toNat := (by omega); exact q))))
  refine aw_lpj hj [(1, .keep), (50, .keep), (51, .keep)] [1] (fun (k : Int) => stOf 64 [(1, .one (.ptr 1 0)), (50, .one (.c (vI (j.ofNat (nS ns))))), (51, .one (.c (vI k)))] [(1, .box [.st ((C.sl (nS ns) (sC ns))), .st ((C.sl (nS ts) (sC ts))), .st ((C.sl (nR rs) (rC rs)))])]) (fun (k : Int) => nS ns - k.toNat) (fun (k : Int) => 0 ≤ k ∧ k ≤ nS ns ∧ ∀ n : Nat, (n : Int) < k → ∃ r ∈ rs, r.1 = (n : Int)) (0) (by generalize @intsOf = x_intsOf; generalize @rlsOf = x_rlsOf; generalize @dupR = x_dupR; generalize @dstS = x_dstS; generalize @ofR = x_ofR; generalize @fitR = x_fitR; generalize @iC = x_iC; generalize @nI = x_nI; generalize @strsOf = x_strsOf; generalize @nameI = x_nameI; generalize @termI = x_termI; generalize @rC = x_rC; generalize @nR = x_nR; generalize @validG = x_validG; generalize @sC = x_sC; generalize @nS = x_nS; cbv) ?_ (fun k hI => ?_)
  · exact ⟨by omega, by omega, fun n h => by omega⟩
  obtain ⟨k1, k2, k3⟩ := hI
  generalize y_intsOf : @intsOf = x_intsOf at *
  generalize y_rlsOf : @rlsOf = x_rlsOf at *
  generalize y_dupR : @dupR = x_dupR at *
  generalize y_dstS : @dstS = x_dstS at *
  generalize y_ofR : @ofR = x_ofR at *
  generalize y_fitR : @fitR = x_fitR at *
  generalize y_iC : @iC = x_iC at *
  generalize y_nI : @nI = x_nI at *
  generalize y_strsOf : @strsOf = x_strsOf at *
  generalize y_nameI : @nameI = x_nameI at *
  generalize y_termI : @termI = x_termI at *
  generalize y_rC : @rC = x_rC at *
  generalize y_nR : @nR = x_nR at *
  generalize y_validG : @validG = x_validG at *
  generalize y_sC : @sC = x_sC at *
  generalize y_nS : @nS = x_nS at *
  (repeat' first | ((first | with_reducible refine tr_cut (fun h => ?_) (fun h => ?_) | refine aw_condj (by cbv) (fun h => ?_) (fun h => ?_)) <;> (try simp (disch := omega) only [hj, std, cmpI, cmpB, satB, Bool.not_eq_true, Bool.not_eq_false, decide_eq_true_eq, decide_eq_false_iff_not, beq_iff_eq, bne_iff_ne, bne_eq_false_iff_eq, beq_eq_false_iff_ne, ne_eq, reduceCtorEq, not_true_eq_false, not_false_eq_true, pl0, if_true, cmpS_eq, cmpS_neq, Bool.not_eq_eq_eq_not, Bool.not_true, Bool.not_false, Bool.not_eq_true', add64, sub64] at h) <;> (try (exfalso; omega))) | (with_reducible refine tr_alt (fun h => ?_) ?_ <;> (try (exfalso; omega))) | (with_reducible refine tr_ob ?_ ?_) | (with_reducible refine tr_done ?_) | (refine aw_tr hj tok (bookGv x_intsOf x_rlsOf x_dupR x_dstS x_ofR x_fitR x_iC x_nI x_strsOf x_nameI x_termI) (by cbv) ?_) | (refine aw_seq fun K hK => ?_) | (refine aw_tr1 hj tok (bookGv x_intsOf x_rlsOf x_dupR x_dstS x_ofR x_fitR x_iC x_nI x_strsOf x_nameI x_termI) (by cbv) ?_) | (refine aw_skip ?_) | (refine aw_block ?_) | (refine aw_exit ?_) | (refine aw_ret ⟨.inr rfl, ret_okj hj (by cbv) ?_ ?_⟩) | (refine aw_ret ?_) | (with_reducible refine th_n ?_) | (with_reducible refine th_r ?_) | (with_reducible refine th_x ?_) | (with_reducible refine blk_n ?_) | (with_reducible refine blk_r ?_) | (with_reducible refine blk_x ?_) | (with_reducible refine blk_y rfl ?_) | (refine ⟨.inr rfl, ret_okj hj (by cbv) ?_ ?_⟩) | (refine ⟨.inl rfl, ret_okj hj (by cbv) ?_ ?_⟩) | ((with_reducible refine ⟨(_, _, _, _, _, _, _), by cbv, ?_, ?_⟩)) | ((with_reducible refine ⟨(_, _, _, _, _, _), by cbv, ?_, ?_⟩)) | ((with_reducible refine ⟨(_, _, _, _, _), by cbv, ?_, ?_⟩)) | ((with_reducible refine ⟨(_, _, _, _), by cbv, ?_, ?_⟩)) | ((with_reducible refine ⟨(_, _, _), by cbv, ?_, ?_⟩)) | ((with_reducible refine ⟨(_, _), by cbv, ?_, ?_⟩)) | ((with_reducible refine ⟨_, by cbv, ?_, ?_⟩)) | (with_reducible apply_assumption -symm -exfalso only [*]))
  all_goals ((try subst y_intsOf); (try subst y_rlsOf); (try subst y_dupR); (try subst y_dstS); (try subst y_ofR); (try subst y_fitR); (try subst y_iC); (try subst y_nI); (try subst y_strsOf); (try subst y_nameI); (try subst y_termI); (try subst y_rC); (try subst y_nR); (try subst y_validG); (try subst y_sC); (try subst y_nS))
  all_goals (try have q := ‹((nI (ofR _ _) : Nat) : Int) = 0›)
  all_goals (try have q := ‹¬ ((nI (ofR _ _) : Nat) : Int) = 0›)
  all_goals (try rw [rlsOf_rC, ofR_len0] at q)
  all_goals (try (repeat' first | with_reducible exact obl0 | with_reducible refine obl1 ?_ ?_))
  all_goals (try first | with_reducible exact True.intro | (refine ob_pc hj ?_; (try rw [hj]); first | exact c_OfG hc | exact c_twG hc hS.i) | (refine ob_pcn hj ?_; (try rw [hj]); first | exact c_OfG hc | exact c_twG hc hS.i) | ((first | refine ob_le hj ?_ | refine ob_lei hj ?_ | refine ob_inb hj ?_ | refine ob_pos hj ?_ | refine ob_ne0 hj ?_ | refine ob_eqb hj ?_); (first | rfl | first | omega | (simp only [hj, std]; split <;> omega) | (simp (disch := omega) only [hj, std, cmpI, cmpB, satB, add64, sub64, ite0, pl0, pl2, pl3, sb0, if_true, if_false, eq_self, rC_len] <;> omega) | (simp (disch := omega) [hj, std, cmpI, cmpB, satB, add64, sub64, ite0, pl0, pl2, pl3, sb0, if_true, if_false, eq_self, rC_len] <;> omega))) | ((refine r1b ?_; exact valid_no5 k1 (by omega) q)) | ((refine r1b ?_; rw [valid_at (by omega) q1 q2 (fun n hn => i3 n (by omega)) (fun n hn => k3 n (by omega)), rlsOf_rC, hj]; rfl)) | ((refine ob_vals hj ?_; exact iC_vals _)) | ((simp (disch := omega) only [hj, std, add64]; first | omega | (refine ⟨by omega, by omega, fun n hn => ?_⟩; by_cases e : (n : Int) < k; exact k3 n e; obtain rfl : n = k.toNat := (by omega); by_cases hh : ∃ r ∈ rs, r.1 = ((k.toNat : Nat) : Int); exact hh; exact absurd (fun r hr e => hh ⟨r, hr, by omega⟩) q))))
end Go.Proofs.Ytdmdcmhgfgookaa.A

/- Grammars that are well made: the plain functions. -/
set_option linter.unusedSimpArgs false
set_option linter.unusedVariables false
set_option maxRecDepth 100000
set_option maxHeartbeats 4000000
namespace Go.Proofs.Ytdmdcmhgfgookaa.A
open Go
abbrev boolT : TypeId := 4
def isTm (s : Int) : Bool := decide (s < 0)
theorem isTm_t {s : Int} : isTm s = true ↔ s < 0 := by unfold isTm; simp
theorem isTm_f {s : Int} : isTm s = false ↔ ¬ s < 0 := by unfold isTm; simp
/-- the length of the shortest string of a right side, from a sum on -/
def sumGo (sh : List Int) : List Int → Int → Int
  | [], n => if 1000000 < n then 1000000 else n
  | s :: r, n => if s < 0 then sumGo sh r (n + 1) else if iAt sh s.toNat < 0 then -1 else sumGo sh r (n + iAt sh s.toNat)
def sumG (right sh : List Int) : Int := sumGo sh right 0
/-- a rule's turn -/
def stepS (sh : List Int) (r : Rl) : List Int := if sumG r.2 sh ≥ 0 ∧ (iAt sh r.1.toNat < 0 ∨ sumG r.2 sh < iAt sh r.1.toNat) then sh.set r.1.toNat (sumG r.2 sh) else sh
def stepR1 (left : Nat) (D : List Bool) (s : Int) : List Bool := if bAt D left = true ∧ 0 ≤ s then D.set s.toNat true else D
def stepR (D : List Bool) (r : Rl) : List Bool := r.2.foldl (stepR1 r.1.toNat) D
def boolsOf (cs : List C) : List Bool := cs.map gb
theorem boolsOf_bC (l : List Bool) : boolsOf (bC l) = l := by unfold boolsOf bC; rw [List.map_map]; exact List.map_id' l
/-- the same in cells -/
def fS (x : Int) (cs D : List C) : List C := iC (stepS (intsOf D) (x, intsOf cs))
def fR (x : Int) (cs D : List C) : List C := bC (stepR (boolsOf D) (x, intsOf cs))
theorem fS_iC (r : Rl) (l : List Int) : fS r.1 (iC r.2) (iC l) = iC (stepS l r) := by unfold fS; rw [intsOf_iC, intsOf_iC]
theorem fR_bC (r : Rl) (l : List Bool) : fR r.1 (iC r.2) (bC l) = bC (stepR l r) := by unfold fR; rw [boolsOf_bC, intsOf_iC]
/-- each rule's turn; so often -/
def passF (F : Int → List C → List C → List C) (rs : List Rl) (D : List C) : List C := rs.foldl (fun D r => F r.1 (iC r.2) D) D
def iterF (F : Int → List C → List C → List C) (rs : List Rl) : Nat → List C → List C
  | 0, D => D
  | n + 1, D => passF F rs (iterF F rs n D)
theorem stepS_len (sh : List Int) (r : Rl) : (stepS sh r).length = sh.length := by unfold stepS; split <;> simp
theorem stepR1_len (a : Nat) (D : List Bool) (s : Int) : (stepR1 a D s).length = D.length := by unfold stepR1; split <;> simp
theorem stepR_len (D : List Bool) (r : Rl) : (stepR D r).length = D.length := by
  unfold stepR
  generalize r.2 = l
  induction l generalizing D with
  | nil => rfl
  | cons s l ih => rw [List.foldl_cons, ih, stepR1_len]
theorem passS (rs : List Rl) : ∀ l : List Int, passF fS rs (iC l) = iC (rs.foldl stepS l) := by
  induction rs with
  | nil => intro l; rfl
  | cons r rs ih => intro l; unfold passF at ih ⊢; rw [List.foldl_cons, fS_iC, ih, List.foldl_cons]
theorem passR (rs : List Rl) : ∀ l : List Bool, passF fR rs (bC l) = bC (rs.foldl stepR l) := by
  induction rs with
  | nil => intro l; rfl
  | cons r rs ih => intro l; unfold passF at ih ⊢; rw [List.foldl_cons, fR_bC, ih, List.foldl_cons]
def itS (rs : List Rl) : Nat → List Int → List Int
  | 0, l => l
  | n + 1, l => rs.foldl stepS (itS rs n l)
def itR (rs : List Rl) : Nat → List Bool → List Bool
  | 0, l => l
  | n + 1, l => rs.foldl stepR (itR rs n l)
theorem iterS (rs : List Rl) (l : List Int) : ∀ n, iterF fS rs n (iC l) = iC (itS rs n l) := by
  intro n
  induction n with
  | zero => rfl
  | succ n ih => rw [iterF, ih, passS, itS]
theorem iterR (rs : List Rl) (l : List Bool) : ∀ n, iterF fR rs n (bC l) = bC (itR rs n l) := by
  intro n
  induction n with
  | zero => rfl
  | succ n ih => rw [iterF, ih, passR, itR]
/-- how long the shortest strings are; who is reached -/
def shortR (ns ts : List ByteArray) (rs : List Rl) : List Int := if validG ns ts rs = true then itS rs (nS ns + 1) (List.replicate (nS ns) (-1)) else []
def reachR (ns ts : List ByteArray) (rs : List Rl) : List Bool := if validG ns ts rs = true then itR rs (nS ns + 1) ((List.replicate (nS ns) false).set 0 true) else []
def prodR (ns ts : List ByteArray) (rs : List Rl) : List Bool := (shortR ns ts rs).map fun n => decide (n ≥ 0)
/-- does the terminal stand in a rule ? -/
def usedG (rs : List Rl) (D : List Bool) (t : Int) : Bool := rs.any fun r => r.2.any fun s => decide (s = -1 - t) && bAt D r.1.toNat
/-- all terminals stand in rules -/
def termsG (ts : List ByteArray) (rs : List Rl) : Bool := (List.range (nS ts)).all fun t => rs.any fun r => r.2.any fun s => decide (s = -1 - (t : Int))
def hasF (l : List Bool) : Bool := l.any fun b => decide (b = false)
/-- what is wrong -/
def checkG (ns ts : List ByteArray) (rs : List Rl) : Int :=
  if validG ns ts rs = false then 1 else if hasF (prodR ns ts rs) = true then 18 else if hasF (reachR ns ts rs) = true ∨ termsG ts rs = false then 17 else 0
end Go.Proofs.Ytdmdcmhgfgookaa.A

/- Grammars that are well made: a rule's turn. -/
set_option linter.unusedSimpArgs false
set_option linter.unusedVariables false
set_option maxRecDepth 100000
set_option maxHeartbeats 4000000
namespace Go.Proofs.Ytdmdcmhgfgookaa.A
open Go
def bookW1 (x_intsOf : List C → List Int) (x_isTm : Int → Bool) (x_sumG : List Int → List Int → Int) : Book := fun f xs => match f, xs with
  | 44, [.v false [.val (.int .i64 s)]] => some (ret1 (.st (vB (x_isTm s))))
  | 47, [.v false [.sl _ cs], .v false [.sl _ ds]] => some (ret1 (.st (vI (x_sumG (x_intsOf cs) (x_intsOf ds)))))
  | _, _ => none
theorem c_IsT (s : Int) : pc 44 [.v false [vI s]] (ret1 (.st (vB (isTm s)))) := by
  refine ⟨enters Try.func44 (by kernel_rfl) (by kernel_rfl), pc_of tok Try.func44 rfl (by rfl) ?_⟩
  obtain ⟨j, hj⟩ : ∃ j : J, j = std Try.prog T := ⟨_, rfl⟩
  have hm : Try.prog.follows .mixedOrders = true := by kernel_rfl
  generalize y_isTm : @isTm = x_isTm at *
  (repeat' first | ((first | with_reducible refine tr_cut (fun h => ?_) (fun h => ?_) | refine aw_condj (by cbv) (fun h => ?_) (fun h => ?_)) <;> (try simp (disch := omega) only [hj, std, cmpI, cmpB, satB, Bool.not_eq_true, Bool.not_eq_false, decide_eq_true_eq, decide_eq_false_iff_not, beq_iff_eq, bne_iff_ne, bne_eq_false_iff_eq, beq_eq_false_iff_ne, ne_eq, reduceCtorEq, not_true_eq_false, not_false_eq_true, pl0, if_true, cmpS_eq, cmpS_neq, Bool.not_eq_eq_eq_not, Bool.not_true, Bool.not_false, Bool.not_eq_true', add64, sub64] at h) <;> (try (exfalso; omega))) | (with_reducible refine tr_alt (fun h => ?_) ?_ <;> (try (exfalso; omega))) | (with_reducible refine tr_ob ?_ ?_) | (with_reducible refine tr_done ?_) | (refine aw_tr hj tok book0 (by cbv) ?_) | (refine aw_seq fun K hK => ?_) | (refine aw_tr1 hj tok book0 (by cbv) ?_) | (refine aw_skip ?_) | (refine aw_block ?_) | (refine aw_exit ?_) | (refine aw_ret ⟨.inr rfl, ret_okj hj (by cbv) ?_ ?_⟩) | (refine aw_ret ?_) | (with_reducible refine th_n ?_) | (with_reducible refine th_r ?_) | (with_reducible refine th_x ?_) | (with_reducible refine blk_n ?_) | (with_reducible refine blk_r ?_) | (with_reducible refine blk_x ?_) | (with_reducible refine blk_y rfl ?_) | (refine ⟨.inr rfl, ret_okj hj (by cbv) ?_ ?_⟩) | (refine ⟨.inl rfl, ret_okj hj (by cbv) ?_ ?_⟩) | ((with_reducible refine ⟨(_, _, _, _, _, _, _), by cbv, ?_, ?_⟩)) | ((with_reducible refine ⟨(_, _, _, _, _, _), by cbv, ?_, ?_⟩)) | ((with_reducible refine ⟨(_, _, _, _, _), by cbv, ?_, ?_⟩)) | ((with_reducible refine ⟨(_, _, _, _), by cbv, ?_, ?_⟩)) | ((with_reducible refine ⟨(_, _, _), by cbv, ?_, ?_⟩)) | ((with_reducible refine ⟨(_, _), by cbv, ?_, ?_⟩)) | ((with_reducible refine ⟨_, by cbv, ?_, ?_⟩)) | (with_reducible apply_assumption -symm -exfalso only [*]))
  all_goals ((try subst y_isTm))
  all_goals (try (repeat' first | with_reducible exact obl0 | with_reducible refine obl1 ?_ ?_))
  all_goals (try first | with_reducible exact True.intro | ((first | refine ob_le hj ?_ | refine ob_lei hj ?_ | refine ob_inb hj ?_ | refine ob_pos hj ?_ | refine ob_ne0 hj ?_ | refine ob_eqb hj ?_); (first | rfl | first | omega | (simp only [hj, std]; split <;> omega) | (simp (disch := omega) only [hj, std, cmpI, cmpB, satB, add64, sub64, ite0, pl0, pl2, pl3, sb0, if_true, if_false, eq_self] <;> omega) | (simp (disch := omega) [hj, std, cmpI, cmpB, satB, add64, sub64, ite0, pl0, pl2, pl3, sb0, if_true, if_false, eq_self] <;> omega))) | ((refine r1b ?_; rw [hj]; rfl)))
theorem sumGo_end {sh l : List Int} {i n : Int} (h : ¬ i < nI l) : sumGo sh (l.drop i.toNat) n = if 1000000 < n then 1000000 else n := by rw [idrop_fin l i h]; rfl
theorem sumGo_t {sh l : List Int} {i n : Int} (h0 : 0 ≤ i) (h : i < nI l) (q : iAt l i.toNat < 0) : sumGo sh (l.drop i.toNat) n = sumGo sh (l.drop (i + 1).toNat) (n + 1) := by rw [idrop_step l i h0 h, sumGo, if_pos q]
theorem sumGo_no {sh l : List Int} {i n : Int} (h0 : 0 ≤ i) (h : i < nI l) (q : ¬ iAt l i.toNat < 0) (p : iAt sh (iAt l i.toNat).toNat < 0) : sumGo sh (l.drop i.toNat) n = -1 := by rw [idrop_step l i h0 h, sumGo, if_neg q, if_pos p]
theorem sumGo_n {sh l : List Int} {i n : Int} (h0 : 0 ≤ i) (h : i < nI l) (q : ¬ iAt l i.toNat < 0) (p : ¬ iAt sh (iAt l i.toNat).toNat < 0) : sumGo sh (l.drop i.toNat) n = sumGo sh (l.drop (i + 1).toNat) (n + iAt sh (iAt l i.toNat).toNat) := by rw [idrop_step l i h0 h, sumGo, if_neg q, if_neg p]
theorem pc_sum (l sh : List Int) (hl : nI l ≤ 1000) (hs : ∀ s ∈ l, s < nI sh) (hb : ∀ s ∈ sh, s ≤ 1000000) : PC Try.prog T 47 [.v false [(C.sl (nI l) (iC l))], .v false [(C.sl (nI sh) (iC sh))]] (ret1 (.st (vI (sumG l sh)))) [] := by
  refine pc_of tok Try.func47 rfl (by rfl) ?_
  obtain ⟨j, hj⟩ : ∃ j : J, j = std Try.prog T := ⟨_, rfl⟩
  have hm : Try.prog.follows .mixedOrders = true := by kernel_rfl
  have nl := nI_eq l; have nsh := nI_eq sh
  generalize y_intsOf : @intsOf = x_intsOf at *
  generalize y_isTm : @isTm = x_isTm at *
  generalize y_sumG : @sumG = x_sumG at *
  generalize y_iC : @iC = x_iC at *
  generalize y_nI : @nI = x_nI at *
  (repeat' first | ((first | with_reducible refine tr_cut (fun h => ?_) (fun h => ?_) | refine aw_condj (by cbv) (fun h => ?_) (fun h => ?_)) <;> (try simp (disch := omega) only [hj, std, cmpI, cmpB, satB, Bool.not_eq_true, Bool.not_eq_false, decide_eq_true_eq, decide_eq_false_iff_not, beq_iff_eq, bne_iff_ne, bne_eq_false_iff_eq, beq_eq_false_iff_ne, ne_eq, reduceCtorEq, not_true_eq_false, not_false_eq_true, pl0, if_true, cmpS_eq, cmpS_neq, Bool.not_eq_eq_eq_not, Bool.not_true, Bool.not_false, Bool.not_eq_true', add64, sub64] at h) <;> (try (exfalso; omega))) | (with_reducible refine tr_alt (fun h => ?_) ?_ <;> (try (exfalso; omega))) | (with_reducible refine tr_ob ?_ ?_) | (with_reducible refine tr_done ?_) | (refine aw_tr hj tok (bookW1 x_intsOf x_isTm x_sumG) (by cbv) ?_) | (refine aw_seq fun K hK => ?_) | (refine aw_tr1 hj tok (bookW1 x_intsOf x_isTm x_sumG) (by cbv) ?_) | (refine aw_skip ?_) | (refine aw_block ?_) | (refine aw_exit ?_) | (refine aw_ret ⟨.inr rfl, ret_okj hj (by cbv) ?_ ?_⟩) | (refine aw_ret ?_) | (with_reducible refine th_n ?_) | (with_reducible refine th_r ?_) | (with_reducible refine th_x ?_) | (with_reducible refine blk_n ?_) | (with_reducible refine blk_r ?_) | (with_reducible refine blk_x ?_) | (with_reducible refine blk_y rfl ?_) | (refine ⟨.inr rfl, ret_okj hj (by cbv) ?_ ?_⟩) | (refine ⟨.inl rfl, ret_okj hj (by cbv) ?_ ?_⟩) | ((with_reducible refine ⟨(_, _, _, _, _, _, _), by cbv, ?_, ?_⟩)) | ((with_reducible refine ⟨(_, _, _, _, _, _), by cbv, ?_, ?_⟩)) | ((with_reducible refine ⟨(_, _, _, _, _), by cbv, ?_, ?_⟩)) | ((with_reducible refine ⟨(_, _, _, _), by cbv, ?_, ?_⟩)) | ((with_reducible refine ⟨(_, _, _), by cbv, ?_, ?_⟩)) | ((with_reducible refine ⟨(_, _), by cbv, ?_, ?_⟩)) | ((with_reducible refine ⟨_, by cbv, ?_, ?_⟩)) | (with_reducible apply_assumption -symm -exfalso only [*]))
  all_goals ((try subst y_intsOf); (try subst y_isTm); (try subst y_sumG); (try subst y_iC); (try subst y_nI))
  refine aw_lpj hj [(1, .keep), (5, .keep), (8, .keep), (9, .keep), (10, .keep)] [] (fun (⟨i, n⟩ : Int × Int) => stOf 34 [(1, .one (.c ((C.sl (nI sh) (iC sh))))), (5, .one (.c (vI n))), (8, .one (.c ((C.sl (nI l) (iC l))))), (9, .one (.c (vI (j.ofNat (nI l))))), (10, .one (.c (vI i)))] []) (fun (⟨i, n⟩ : Int × Int) => nI l - i.toNat) (fun (⟨i, n⟩ : Int × Int) => 0 ≤ i ∧ i ≤ nI l ∧ 0 ≤ n ∧ n ≤ i * 1000000 ∧ sumG l sh = sumGo sh (l.drop i.toNat) n) ((0, 0)) (by generalize @intsOf = x_intsOf; generalize @isTm = x_isTm; generalize @sumG = x_sumG; generalize @iC = x_iC; generalize @nI = x_nI; cbv) ?_ (fun ⟨i, n⟩ hI => ?_)
  · exact ⟨by omega, by omega, by omega, by omega, rfl⟩
  obtain ⟨i1, i2, n1, n2, n3⟩ := hI
  have e1 : gi (cellAt (iC l) i.toNat) = iAt l i.toNat := gi_iC _ _
  have e2 : gi (cellAt (iC sh) (iAt l i.toNat).toNat) = iAt sh (iAt l i.toNat).toNat := gi_iC _ _
  have hs1 : i < nI l → iAt l i.toNat < nI sh := fun h => hs _ (iAt_mem l i i1 h)
  have hs2 : i < nI l → ¬ iAt l i.toNat < 0 → iAt sh (iAt l i.toNat).toNat ≤ 1000000 := fun h h2 => hb _ (iAt_mem sh _ (by omega) (hs1 h))
  generalize y_intsOf : @intsOf = x_intsOf at *
  generalize y_isTm : @isTm = x_isTm at *
  generalize y_sumG : @sumG = x_sumG at *
  generalize y_iC : @iC = x_iC at *
  generalize y_nI : @nI = x_nI at *
  (repeat' first | ((first | with_reducible refine tr_cut (fun h => ?_) (fun h => ?_) | refine aw_condj (by cbv) (fun h => ?_) (fun h => ?_)) <;> (try simp (disch := omega) only [hj, std, cmpI, cmpB, satB, Bool.not_eq_true, Bool.not_eq_false, decide_eq_true_eq, decide_eq_false_iff_not, beq_iff_eq, bne_iff_ne, bne_eq_false_iff_eq, beq_eq_false_iff_ne, ne_eq, reduceCtorEq, not_true_eq_false, not_false_eq_true, pl0, if_true, cmpS_eq, cmpS_neq, Bool.not_eq_eq_eq_not, Bool.not_true, Bool.not_false, Bool.not_eq_true', add64, sub64] at h) <;> (try (exfalso; omega))) | (with_reducible refine tr_alt (fun h => ?_) ?_ <;> (try (exfalso; omega))) | (with_reducible refine tr_ob ?_ ?_) | (with_reducible refine tr_done ?_) | (refine aw_tr hj tok (bookW1 x_intsOf x_isTm x_sumG) (by cbv) ?_) | (refine aw_seq fun K hK => ?_) | (refine aw_tr1 hj tok (bookW1 x_intsOf x_isTm x_sumG) (by cbv) ?_) | (refine aw_skip ?_) | (refine aw_block ?_) | (refine aw_exit ?_) | (refine aw_ret ⟨.inr rfl, ret_okj hj (by cbv) ?_ ?_⟩) | (refine aw_ret ?_) | (with_reducible refine th_n ?_) | (with_reducible refine th_r ?_) | (with_reducible refine th_x ?_) | (with_reducible refine blk_n ?_) | (with_reducible refine blk_r ?_) | (with_reducible refine blk_x ?_) | (with_reducible refine blk_y rfl ?_) | (refine ⟨.inr rfl, ret_okj hj (by cbv) ?_ ?_⟩) | (refine ⟨.inl rfl, ret_okj hj (by cbv) ?_ ?_⟩) | ((with_reducible refine ⟨(_, _, _, _, _, _, _), by cbv, ?_, ?_⟩)) | ((with_reducible refine ⟨(_, _, _, _, _, _), by cbv, ?_, ?_⟩)) | ((with_reducible refine ⟨(_, _, _, _, _), by cbv, ?_, ?_⟩)) | ((with_reducible refine ⟨(_, _, _, _), by cbv, ?_, ?_⟩)) | ((with_reducible refine ⟨(_, _, _), by cbv, ?_, ?_⟩)) | ((with_reducible refine ⟨(_, _), by cbv, ?_, ?_⟩)) | ((with_reducible refine ⟨_, by cbv, ?_, ?_⟩)) | (with_reducible apply_assumption -symm -exfalso only [*]))
  all_goals ((try subst y_intsOf); (try subst y_isTm); (try subst y_sumG); (try subst y_iC); (try subst y_nI))
  all_goals (try have q := ‹isTm _ = true›)
  all_goals (try have q := ‹isTm _ = false›)
  all_goals (try rw [gi_iC] at q)
  all_goals (try rw [isTm_t] at q)
  all_goals (try rw [isTm_f] at q)
  all_goals (try have p := ‹gi (cellAt (iC sh) _) < 0›)
  all_goals (try have p := ‹¬ gi (cellAt (iC sh) _) < 0›)
  all_goals (try rw [gi_iC, gi_iC] at p)
  all_goals (try have p2 := hs2 (by omega) q)
  all_goals (try (repeat' first | with_reducible exact obl0 | with_reducible refine obl1 ?_ ?_))
  all_goals (try first | with_reducible exact True.intro | (refine ob_pc hj ?_; (try rw [hj]); first | exact c_IsT _) | (refine ob_pcn hj ?_; (try rw [hj]); first | exact c_IsT _) | ((first | refine ob_le hj ?_ | refine ob_lei hj ?_ | refine ob_inb hj ?_ | refine ob_pos hj ?_ | refine ob_ne0 hj ?_ | refine ob_eqb hj ?_); (first | rfl | first | omega | (simp only [hj, std]; split <;> omega) | (simp (disch := omega) only [hj, std, cmpI, cmpB, satB, add64, sub64, ite0, pl0, pl2, pl3, sb0, if_true, if_false, eq_self, iC_len, gi_iC] <;> omega) | (simp (disch := omega) [hj, std, cmpI, cmpB, satB, add64, sub64, ite0, pl0, pl2, pl3, sb0, if_true, if_false, eq_self, iC_len, gi_iC] <;> omega))) | ((refine ob_ok hj ?_; simp only [hj, std, ite0, gi_iC]; exact ok_iC (by omega))) | ((refine r1i ?_; rw [n3, sumGo_end (by omega), hj]; rfl)) | ((refine r1i ?_; rw [n3]; exact sumGo_no i1 (by omega) q p)) | ((simp (disch := omega) only [hj, std, add64, gi_iC]; first | omega | exact ⟨by omega, by omega, by omega, by omega, by rw [n3, sumGo_t i1 (by omega) q]⟩ | exact ⟨by omega, by omega, by omega, by omega, by rw [n3, sumGo_n i1 (by omega) q p]⟩)))
theorem c_sum {l sh : List Int} {n m : Nat} {cs ds : List C} (h1 : n = nI l) (h2 : cs = iC l) (h3 : m = nI sh) (h4 : ds = iC sh) (hl : nI l ≤ 1000) (hs : ∀ s ∈ l, s < nI sh) (hb : ∀ s ∈ sh, s ≤ 1000000) : pc 47 [.v false [.sl n cs], .v false [.sl m ds]] (ret1 (.st (vI (sumG (intsOf cs) (intsOf ds))))) := by
  subst h1; subst h2; subst h3; subst h4
  rw [intsOf_iC, intsOf_iC]
  exact ⟨enters Try.func47 (by kernel_rfl) (by kernel_rfl), pc_sum l sh hl hs hb⟩
theorem stepS_yes {sh l : List Int} {x : Int} (hx : 0 ≤ x ∧ x < nI sh) (h : sumG l sh ≥ 0) (h2 : iAt sh x.toNat < 0 ∨ sumG l sh < iAt sh x.toNat) : setC (iC sh) x.toNat [vI (sumG l sh)] = iC (stepS sh (x, l)) := by
  have hn := nI_eq sh
  have e : stepS sh (x, l) = sh.set x.toNat (sumG l sh) := if_pos ⟨h, h2⟩
  rw [e]; exact iC_set sh _ (by omega)
theorem stepS_no {sh l : List Int} {x : Int} (h : ¬ (sumG l sh ≥ 0 ∧ (iAt sh x.toNat < 0 ∨ sumG l sh < iAt sh x.toNat))) : iC sh = iC (stepS sh (x, l)) := by
  have e : stepS sh (x, l) = sh := if_neg h
  rw [e]
theorem pc_Sh1 (x : Int) (l sh : List Int) (hx : 0 ≤ x ∧ x < nI sh) (hl : nI l ≤ 1000) (hs : ∀ s ∈ l, s < nI sh) (hb : ∀ s ∈ sh, s ≤ 1000000) : PC Try.prog T 46 [.v true [vI x, (C.sl (nI l) (iC l))], .root (.box [.own intT (nI sh) (iC sh)])] (rets []) [.none, .box [.own intT (nI sh) (iC (stepS sh (x, l)))]] := by
  refine pc_of tok Try.func46 rfl (by rfl) ?_
  obtain ⟨j, hj⟩ : ∃ j : J, j = std Try.prog T := ⟨_, rfl⟩
  have hm : Try.prog.follows .mixedOrders = true := by kernel_rfl
  have nl := nI_eq l; have nsh := nI_eq sh
  generalize y_intsOf : @intsOf = x_intsOf at *
  generalize y_isTm : @isTm = x_isTm at *
  generalize y_sumG : @sumG = x_sumG at *
  generalize y_iC : @iC = x_iC at *
  generalize y_nI : @nI = x_nI at *
  (repeat' first | (refine ⟨.inl rfl, ret_oku hj (by cbv) (by cbv) rfl ?_ ?_ (upd_of ?_)⟩) | ((first | with_reducible refine tr_cut (fun h => ?_) (fun h => ?_) | refine aw_condj (by cbv) (fun h => ?_) (fun h => ?_)) <;> (try simp (disch := omega) only [hj, std, cmpI, cmpB, satB, Bool.not_eq_true, Bool.not_eq_false, decide_eq_true_eq, decide_eq_false_iff_not, beq_iff_eq, bne_iff_ne, bne_eq_false_iff_eq, beq_eq_false_iff_ne, ne_eq, reduceCtorEq, not_true_eq_false, not_false_eq_true, pl0, if_true, cmpS_eq, cmpS_neq, Bool.not_eq_eq_eq_not, Bool.not_true, Bool.not_false, Bool.not_eq_true', add64, sub64] at h) <;> (try (exfalso; omega))) | (with_reducible refine tr_alt (fun h => ?_) ?_ <;> (try (exfalso; omega))) | (with_reducible refine tr_ob ?_ ?_) | (with_reducible refine tr_done ?_) | (refine aw_tr hj tok (bookW1 x_intsOf x_isTm x_sumG) (by cbv) ?_) | (refine aw_seq fun K hK => ?_) | (refine aw_tr1 hj tok (bookW1 x_intsOf x_isTm x_sumG) (by cbv) ?_) | (refine aw_skip ?_) | (refine aw_block ?_) | (refine aw_exit ?_) | (refine aw_ret ⟨.inr rfl, ret_okj hj (by cbv) ?_ ?_⟩) | (refine aw_ret ?_) | (with_reducible refine th_n ?_) | (with_reducible refine th_r ?_) | (with_reducible refine th_x ?_) | (with_reducible refine blk_n ?_) | (with_reducible refine blk_r ?_) | (with_reducible refine blk_x ?_) | (with_reducible refine blk_y rfl ?_) | (refine ⟨.inr rfl, ret_okj hj (by cbv) ?_ ?_⟩) | (refine ⟨.inl rfl, ret_okj hj (by cbv) ?_ ?_⟩) | ((with_reducible refine ⟨(_, _, _, _, _, _, _), by cbv, ?_, ?_⟩)) | ((with_reducible refine ⟨(_, _, _, _, _, _), by cbv, ?_, ?_⟩)) | ((with_reducible refine ⟨(_, _, _, _, _), by cbv, ?_, ?_⟩)) | ((with_reducible refine ⟨(_, _, _, _), by cbv, ?_, ?_⟩)) | ((with_reducible refine ⟨(_, _, _), by cbv, ?_, ?_⟩)) | ((with_reducible refine ⟨(_, _), by cbv, ?_, ?_⟩)) | ((with_reducible refine ⟨_, by cbv, ?_, ?_⟩)) | (with_reducible apply_assumption -symm -exfalso only [*]))
  all_goals ((try subst y_intsOf); (try subst y_isTm); (try subst y_sumG); (try subst y_iC); (try subst y_nI))
  all_goals (try have q := ‹sumG _ _ ≥ 0›)
  all_goals (try have q := ‹¬ sumG _ _ ≥ 0›)
  all_goals (try have p := ‹gi (cellAt (iC sh) x.toNat) < 0›)
  all_goals (try have p := ‹¬ gi (cellAt (iC sh) x.toNat) < 0›)
  all_goals (try have r := ‹sumG _ _ < gi (cellAt (iC sh) x.toNat)›)
  all_goals (try have r := ‹¬ sumG _ _ < gi (cellAt (iC sh) x.toNat)›)
  all_goals (try rw [intsOf_iC, intsOf_iC] at q)
  all_goals (try rw [gi_iC] at p)
  all_goals (try rw [intsOf_iC, intsOf_iC, gi_iC] at r)
  all_goals (try (repeat' first | with_reducible exact obl0 | with_reducible refine obl1 ?_ ?_))
  all_goals (try first | with_reducible exact True.intro | (refine ob_pc hj ?_; (try rw [hj]); first | exact c_sum rfl rfl rfl rfl hl hs hb) | (refine ob_pcn hj ?_; (try rw [hj]); first | exact c_sum rfl rfl rfl rfl hl hs hb) | ((first | refine ob_le hj ?_ | refine ob_lei hj ?_ | refine ob_inb hj ?_ | refine ob_pos hj ?_ | refine ob_ne0 hj ?_ | refine ob_eqb hj ?_); (first | rfl | first | omega | (simp only [hj, std]; split <;> omega) | (simp (disch := omega) only [hj, std, cmpI, cmpB, satB, add64, sub64, ite0, pl0, pl2, pl3, sb0, if_true, if_false, eq_self, iC_len] <;> omega) | (simp (disch := omega) [hj, std, cmpI, cmpB, satB, add64, sub64, ite0, pl0, pl2, pl3, sb0, if_true, if_false, eq_self, iC_len] <;> omega))) | ((refine ob_ok hj ?_; simp only [hj, std, ite0]; exact ok_iC (by omega))) | ((refine ob_vals hj ?_; exact iC_vals _)) | (exact rfl) | ((refine upd_none (upd_box ?_ (upd_nil _)); refine congrArg (fun D => Root.box [RC.own intT (nI sh) D]) ?_; (try rw [hj]); (try simp only [std, intsOf_iC]); first | exact stepS_yes hx q (.inl p) | exact stepS_yes hx q (.inr r) | exact stepS_no (by omega))))
theorem c_Sh1 {x : Int} {l sh : List Int} (hx : 0 ≤ x ∧ x < nI sh) (hl : nI l ≤ 1000) (hs : ∀ s ∈ l, s < nI sh) (hb : ∀ s ∈ sh, s ≤ 1000000) : (std Try.prog T).pc 46 [.v true [vI x, (C.sl (nI l) (iC l))], .root (.box [.own intT (nI sh) (iC sh)])] (rets []) [.none, .box [.own intT (nI sh) (iC (stepS sh (x, l)))]] :=
  ⟨enters Try.func46 (by kernel_rfl) (by kernel_rfl), pc_Sh1 x l sh hx hl hs hb⟩
theorem foldR_len (a : Nat) : ∀ (l : List Int) (D : List Bool), (l.foldl (stepR1 a) D).length = D.length := by
  intro l
  induction l with
  | nil => intro D; rfl
  | cons s l ih => intro D; rw [List.foldl_cons, ih, stepR1_len]
theorem pc_Re1 (x : Int) (l : List Int) (D : List Bool) (hx : 0 ≤ x ∧ x < nB D) (hl : nI l ≤ 1000) (hs : ∀ s ∈ l, s < nB D) : PC Try.prog T 43 [.v true [vI x, (C.sl (nI l) (iC l))], .root (.box [.own boolT (nB D) (bC D)])] (rets []) [.none, .box [.own boolT (nB D) (bC (stepR D (x, l)))]] := by
  refine pc_of tok Try.func43 rfl (by rfl) ?_
  obtain ⟨j, hj⟩ : ∃ j : J, j = std Try.prog T := ⟨_, rfl⟩
  have hm : Try.prog.follows .mixedOrders = true := by kernel_rfl
  have nl := nI_eq l; have nD := nB_eq D
  generalize y_intsOf : @intsOf = x_intsOf at *
  generalize y_isTm : @isTm = x_isTm at *
  generalize y_sumG : @sumG = x_sumG at *
  generalize y_iC : @iC = x_iC at *
  generalize y_bC : @bC = x_bC at *
  generalize y_nI : @nI = x_nI at *
  generalize y_nB : @nB = x_nB at *
  (repeat' first | ((first | with_reducible refine tr_cut (fun h => ?_) (fun h => ?_) | refine aw_condj (by cbv) (fun h => ?_) (fun h => ?_)) <;> (try simp (disch := omega) only [hj, std, cmpI, cmpB, satB, Bool.not_eq_true, Bool.not_eq_false, decide_eq_true_eq, decide_eq_false_iff_not, beq_iff_eq, bne_iff_ne, bne_eq_false_iff_eq, beq_eq_false_iff_ne, ne_eq, reduceCtorEq, not_true_eq_false, not_false_eq_true, pl0, if_true, cmpS_eq, cmpS_neq, Bool.not_eq_eq_eq_not, Bool.not_true, Bool.not_false, Bool.not_eq_true', add64, sub64] at h) <;> (try (exfalso; omega))) | (with_reducible refine tr_alt (fun h => ?_) ?_ <;> (try (exfalso; omega))) | (with_reducible refine tr_ob ?_ ?_) | (with_reducible refine tr_done ?_) | (refine aw_tr hj tok (bookW1 x_intsOf x_isTm x_sumG) (by cbv) ?_) | (refine aw_seq fun K hK => ?_) | (refine aw_tr1 hj tok (bookW1 x_intsOf x_isTm x_sumG) (by cbv) ?_) | (refine aw_skip ?_) | (refine aw_block ?_) | (refine aw_exit ?_) | (refine aw_ret ⟨.inr rfl, ret_okj hj (by cbv) ?_ ?_⟩) | (refine aw_ret ?_) | (with_reducible refine th_n ?_) | (with_reducible refine th_r ?_) | (with_reducible refine th_x ?_) | (with_reducible refine blk_n ?_) | (with_reducible refine blk_r ?_) | (with_reducible refine blk_x ?_) | (with_reducible refine blk_y rfl ?_) | (refine ⟨.inr rfl, ret_okj hj (by cbv) ?_ ?_⟩) | (refine ⟨.inl rfl, ret_okj hj (by cbv) ?_ ?_⟩) | ((with_reducible refine ⟨(_, _, _, _, _, _, _), by cbv, ?_, ?_⟩)) | ((with_reducible refine ⟨(_, _, _, _, _, _), by cbv, ?_, ?_⟩)) | ((with_reducible refine ⟨(_, _, _, _, _), by cbv, ?_, ?_⟩)) | ((with_reducible refine ⟨(_, _, _, _), by cbv, ?_, ?_⟩)) | ((with_reducible refine ⟨(_, _, _), by cbv, ?_, ?_⟩)) | ((with_reducible refine ⟨(_, _), by cbv, ?_, ?_⟩)) | ((with_reducible refine ⟨_, by cbv, ?_, ?_⟩)) | (with_reducible apply_assumption -symm -exfalso only [*]))
  all_goals ((try subst y_intsOf); (try subst y_isTm); (try subst y_sumG); (try subst y_iC); (try subst y_bC); (try subst y_nI); (try subst y_nB))
  refine aw_lpj hj [(1, .keep), (2, .keep), (6, .keep), (7, .keep), (8, .keep)] [2] (fun (⟨i, cs⟩ : Int × (List C)) => stOfR 26 [(1, .one (.ptr 28 0)), (2, .one (.ptr 2 0)), (6, .one (.c ((C.sl (nI l) (iC l))))), (7, .one (.c (vI (j.ofNat (nI l))))), (8, .one (.c (vI i)))] [(2, .box [.st (vI x), .st ((C.sl (nI l) (iC l)))])] [.none, .box [.own boolT (nB D) cs]]) (fun (⟨i, cs⟩ : Int × (List C)) => nI l - i.toNat) (fun (⟨i, cs⟩ : Int × (List C)) => 0 ≤ i ∧ i ≤ nI l ∧ cs = bC ((l.take i.toNat).foldl (stepR1 x.toNat) D)) ((0, bC D)) (by generalize @intsOf = x_intsOf; generalize @isTm = x_isTm; generalize @sumG = x_sumG; generalize @iC = x_iC; generalize @bC = x_bC; generalize @nI = x_nI; generalize @nB = x_nB; cbv) ?_ (fun ⟨i, cs⟩ hI => ?_)
  · exact ⟨by omega, by omega, rfl⟩
  obtain ⟨i1, i2, rfl⟩ := hI
  have hend : ¬ i < nI l → bC ((l.take i.toNat).foldl (stepR1 x.toNat) D) = bC (stepR D (x, l)) := fun h => by rw [List.take_of_length_le (by omega)]; rfl
  have hnext : i < nI l → (l.take (i + 1).toNat).foldl (stepR1 x.toNat) D = stepR1 x.toNat ((l.take i.toNat).foldl (stepR1 x.toNat) D) (iAt l i.toNat) := fun h => by
    rw [show (i + 1).toNat = i.toNat + 1 by omega, take_snoc 0 (by omega), List.foldl_append]; rfl
  have nE : nB ((l.take i.toNat).foldl (stepR1 x.toNat) D) = nB D := by rw [nB_eq, nB_eq, foldR_len]
  generalize (l.take i.toNat).foldl (stepR1 x.toNat) D = E at *
  have nE2 := nB_eq E
  have hsi : i < nI l → iAt l i.toNat < nB D := fun h => hs _ (iAt_mem l i i1 h)
  have eN : ¬ (bAt E x.toNat = true ∧ 0 ≤ iAt l i.toNat) → stepR1 x.toNat E (iAt l i.toNat) = E := fun h => if_neg h
  have eY : bAt E x.toNat = true → 0 ≤ iAt l i.toNat → stepR1 x.toNat E (iAt l i.toNat) = E.set (iAt l i.toNat).toNat true := fun h h2 => if_pos ⟨h, h2⟩
  have hset : ∀ s : Int, 0 ≤ s → s < nB D → setC (bC E) s.toNat [vB true] = bC (E.set s.toNat true) := fun s h0 h1 => bC_set E true (by omega)
  generalize y_intsOf : @intsOf = x_intsOf at *
  generalize y_isTm : @isTm = x_isTm at *
  generalize y_sumG : @sumG = x_sumG at *
  generalize y_iC : @iC = x_iC at *
  generalize y_bC : @bC = x_bC at *
  generalize y_nI : @nI = x_nI at *
  generalize y_nB : @nB = x_nB at *
  (repeat' first | (refine ⟨.inl rfl, ret_oku hj (by cbv) (by cbv) rfl ?_ ?_ (upd_of ?_)⟩) | ((first | with_reducible refine tr_cut (fun h => ?_) (fun h => ?_) | refine aw_condj (by cbv) (fun h => ?_) (fun h => ?_)) <;> (try simp (disch := omega) only [hj, std, cmpI, cmpB, satB, Bool.not_eq_true, Bool.not_eq_false, decide_eq_true_eq, decide_eq_false_iff_not, beq_iff_eq, bne_iff_ne, bne_eq_false_iff_eq, beq_eq_false_iff_ne, ne_eq, reduceCtorEq, not_true_eq_false, not_false_eq_true, pl0, if_true, cmpS_eq, cmpS_neq, Bool.not_eq_eq_eq_not, Bool.not_true, Bool.not_false, Bool.not_eq_true', add64, sub64] at h) <;> (try (exfalso; omega))) | (with_reducible refine tr_alt (fun h => ?_) ?_ <;> (try (exfalso; omega))) | (with_reducible refine tr_ob ?_ ?_) | (with_reducible refine tr_done ?_) | (refine aw_tr hj tok (bookW1 x_intsOf x_isTm x_sumG) (by cbv) ?_) | (refine aw_seq fun K hK => ?_) | (refine aw_tr1 hj tok (bookW1 x_intsOf x_isTm x_sumG) (by cbv) ?_) | (refine aw_skip ?_) | (refine aw_block ?_) | (refine aw_exit ?_) | (refine aw_ret ⟨.inr rfl, ret_okj hj (by cbv) ?_ ?_⟩) | (refine aw_ret ?_) | (with_reducible refine th_n ?_) | (with_reducible refine th_r ?_) | (with_reducible refine th_x ?_) | (with_reducible refine blk_n ?_) | (with_reducible refine blk_r ?_) | (with_reducible refine blk_x ?_) | (with_reducible refine blk_y rfl ?_) | (refine ⟨.inr rfl, ret_okj hj (by cbv) ?_ ?_⟩) | (refine ⟨.inl rfl, ret_okj hj (by cbv) ?_ ?_⟩) | ((with_reducible refine ⟨(_, _, _, _, _, _, _), by cbv, ?_, ?_⟩)) | ((with_reducible refine ⟨(_, _, _, _, _, _), by cbv, ?_, ?_⟩)) | ((with_reducible refine ⟨(_, _, _, _, _), by cbv, ?_, ?_⟩)) | ((with_reducible refine ⟨(_, _, _, _), by cbv, ?_, ?_⟩)) | ((with_reducible refine ⟨(_, _, _), by cbv, ?_, ?_⟩)) | ((with_reducible refine ⟨(_, _), by cbv, ?_, ?_⟩)) | ((with_reducible refine ⟨_, by cbv, ?_, ?_⟩)) | (with_reducible apply_assumption -symm -exfalso only [*]))
  all_goals ((try subst y_intsOf); (try subst y_isTm); (try subst y_sumG); (try subst y_iC); (try subst y_bC); (try subst y_nI); (try subst y_nB))
  all_goals (try have q := ‹gb (cellAt (bC E) x.toNat) = true›)
  all_goals (try have q := ‹gb (cellAt (bC E) x.toNat) = false›)
  all_goals (try rw [gb_bC] at q)
  all_goals (try have p := ‹isTm _ = true›)
  all_goals (try have p := ‹isTm _ = false›)
  all_goals (try rw [gi_iC] at p)
  all_goals (try rw [isTm_t] at p)
  all_goals (try rw [isTm_f] at p)
  all_goals (try (repeat' first | with_reducible exact obl0 | with_reducible refine obl1 ?_ ?_))
  all_goals (try first | with_reducible exact True.intro | (refine ob_pc hj ?_; (try rw [hj]); first | exact c_IsT _) | (refine ob_pcn hj ?_; (try rw [hj]); first | exact c_IsT _) | ((first | refine ob_le hj ?_ | refine ob_lei hj ?_ | refine ob_inb hj ?_ | refine ob_pos hj ?_ | refine ob_ne0 hj ?_ | refine ob_eqb hj ?_); (first | rfl | first | omega | (simp only [hj, std]; split <;> omega) | (simp (disch := omega) only [hj, std, cmpI, cmpB, satB, add64, sub64, ite0, pl0, pl2, pl3, sb0, if_true, if_false, eq_self, iC_len, bC_len, gi_iC] <;> omega) | (simp (disch := omega) [hj, std, cmpI, cmpB, satB, add64, sub64, ite0, pl0, pl2, pl3, sb0, if_true, if_false, eq_self, iC_len, bC_len, gi_iC] <;> omega))) | ((refine ob_ok hj ?_; simp only [hj, std, ite0]; first | exact ok_iC (by omega) | exact ok_bC (by omega))) | ((refine ob_vals hj ?_; exact bC_vals _)) | (exact rfl) | ((refine upd_none (upd_box ?_ (upd_nil _)); refine congrArg (fun D => Root.box [RC.own boolT (nB _) D]) ?_; exact hend (by omega))) | ((simp (disch := omega) only [hj, std, add64, gi_iC]; first | omega | exact ⟨by omega, by omega, by rw [hnext (by omega), eY q (by omega)]; exact hset _ (by omega) (by omega)⟩ | exact ⟨by omega, by omega, by rw [hnext (by omega), eN (fun hh => absurd hh.2 (by omega))]⟩ | exact ⟨by omega, by omega, by rw [hnext (by omega), eN (fun hh => by rw [q] at hh; exact absurd hh.1 (by decide))]⟩)))
end Go.Proofs.Ytdmdcmhgfgookaa.A

/- Grammars that are well made: rounds. -/
set_option linter.unusedSimpArgs false
set_option linter.unusedVariables false
set_option maxRecDepth 100000
set_option maxHeartbeats 4000000
namespace Go.Proofs.Ytdmdcmhgfgookaa.A
open Go
def bookRd (F : Int → List C → List C → List C) : Book := fun _ xs => match xs with
  | [.v true [.val (.int .i64 x), .sl _ cs], .root (.box [.own e m D])] => some (rets [], [.none, .box [.own e m (F x cs D)]])
  | _ => none
theorem passF_next {F : Int → List C → List C → List C} {rs : List Rl} {k : Int} (h0 : 0 ≤ k) (hk : k < nR rs) (D : List C) : passF F (rs.take (k + 1).toNat) D = F (rAt rs k.toNat).1 (iC (rAt rs k.toNat).2) (passF F (rs.take k.toNat) D) := by
  have hn := nR_eq rs
  unfold passF
  rw [show (k + 1).toNat = k.toNat + 1 by omega, take_snoc (0, []) (by omega), List.foldl_append]; rfl
theorem passF_all {F : Int → List C → List C → List C} {rs : List Rl} {k : Int} (hk : ¬ k < nR rs) (D : List C) : passF F (rs.take k.toNat) D = passF F rs D := by
  have hn := nR_eq rs
  rw [List.take_of_length_le (by omega)]
theorem pc_rounds (ns ts : List ByteArray) (rs : List Rl) (f : FuncId) (F : Int → List C → List C → List C) (I : List C → Prop) (m : Nat) (D0 : List C) (hI0 : I D0) (hn : nS ns ≤ 1000000) (hr : nR rs ≤ 1000000) (hv : ∀ D, I D → ∀ c ∈ D, ∃ v, c = .val v)
    (hstep : ∀ D, I D → ∀ r ∈ rs, I (F r.1 (iC r.2) D) ∧ (std Try.prog T).pc f [.v true [vI r.1, (C.sl (nI r.2) (iC r.2))], .root (.box [.own intT m D])] (rets []) [.none, .box [.own intT m (F r.1 (iC r.2) D)]]) :
    PC Try.prog T 42 [.v true [(C.sl (nS ns) (sC ns)), (C.sl (nS ts) (sC ts)), (C.sl (nR rs) (rC rs))], .clo f [2], .virt (.box [.own intT m D0])] (rets []) [.none, .none, .box [.own intT m (iterF F rs (nS ns + 1) D0)]] := by
  refine pc_of tok Try.func42 rfl (by rfl) ?_
  obtain ⟨j, hj⟩ : ∃ j : J, j = std Try.prog T := ⟨_, rfl⟩
  have hm : Try.prog.follows .mixedOrders = true := by kernel_rfl
  have nn := nS_eq ns; have nr := nR_eq rs
  have e0 : arithI .add .i64 (nS ns) 1 = nS ns + 1 := add64 (by omega) (by omega)
  generalize y_rC : @rC = x_rC at *
  generalize y_nR : @nR = x_nR at *
  generalize y_sC : @sC = x_sC at *
  generalize y_iC : @iC = x_iC at *
  generalize y_nS : @nS = x_nS at *
  generalize y_nI : @nI = x_nI at *
  (repeat' first | (refine ⟨.inl rfl, ret_oku hj (by cbv) (by cbv) rfl ?_ ?_ (upd_of ?_)⟩) | ((first | with_reducible refine tr_cut (fun h => ?_) (fun h => ?_) | refine aw_condj (by cbv) (fun h => ?_) (fun h => ?_)) <;> (try simp (disch := omega) only [hj, std, cmpI, cmpB, satB, Bool.not_eq_true, Bool.not_eq_false, decide_eq_true_eq, decide_eq_false_iff_not, beq_iff_eq, bne_iff_ne, bne_eq_false_iff_eq, beq_eq_false_iff_ne, ne_eq, reduceCtorEq, not_true_eq_false, not_false_eq_true, pl0, if_true, cmpS_eq, cmpS_neq, Bool.not_eq_eq_eq_not, Bool.not_true, Bool.not_false, Bool.not_eq_true', add64, sub64] at h) <;> (try (exfalso; omega))) | (with_reducible refine tr_alt (fun h => ?_) ?_ <;> (try (exfalso; omega))) | (with_reducible refine tr_ob ?_ ?_) | (with_reducible refine tr_done ?_) | (refine aw_tr hj tok (bookRd F) (by cbv) ?_) | (refine aw_seq fun K hK => ?_) | (refine aw_tr1 hj tok (bookRd F) (by cbv) ?_) | (refine aw_skip ?_) | (refine aw_block ?_) | (refine aw_exit ?_) | (refine aw_ret ⟨.inr rfl, ret_okj hj (by cbv) ?_ ?_⟩) | (refine aw_ret ?_) | (with_reducible refine th_n ?_) | (with_reducible refine th_r ?_) | (with_reducible refine th_x ?_) | (with_reducible refine blk_n ?_) | (with_reducible refine blk_r ?_) | (with_reducible refine blk_x ?_) | (with_reducible refine blk_y rfl ?_) | (refine ⟨.inr rfl, ret_okj hj (by cbv) ?_ ?_⟩) | (refine ⟨.inl rfl, ret_okj hj (by cbv) ?_ ?_⟩) | ((with_reducible refine ⟨(_, _, _, _, _, _, _), by cbv, ?_, ?_⟩)) | ((with_reducible refine ⟨(_, _, _, _, _, _), by cbv, ?_, ?_⟩)) | ((with_reducible refine ⟨(_, _, _, _, _), by cbv, ?_, ?_⟩)) | ((with_reducible refine ⟨(_, _, _, _), by cbv, ?_, ?_⟩)) | ((with_reducible refine ⟨(_, _, _), by cbv, ?_, ?_⟩)) | ((with_reducible refine ⟨(_, _), by cbv, ?_, ?_⟩)) | ((with_reducible refine ⟨_, by cbv, ?_, ?_⟩)) | (with_reducible apply_assumption -symm -exfalso only [*]))
  all_goals ((try subst y_rC); (try subst y_nR); (try subst y_sC); (try subst y_iC); (try subst y_nS); (try subst y_nI))
  refine aw_lpj hj [(1, .keep), (2, .keep), (9, .keep), (10, .keep)] [2] (fun (⟨i, D⟩ : Int × (List C)) => stOfR 24 [(1, .one (.fn f [27])), (2, .one (.ptr 2 0)), (9, .one (.c (vI (j.arith .add .i64 (j.ofNat (nS ns)) 1)))), (10, .one (.c (vI i)))] [(2, .box [.st ((C.sl (nS ns) (sC ns))), .st ((C.sl (nS ts) (sC ts))), .st ((C.sl (nR rs) (rC rs)))])] [.none, .none, .box [.own intT m D]]) (fun (⟨i, D⟩ : Int × (List C)) => nS ns + 1 - i.toNat) (fun (⟨i, D⟩ : Int × (List C)) => 0 ≤ i ∧ i ≤ nS ns + 1 ∧ D = iterF F rs i.toNat D0 ∧ I D) ((0, D0)) (by generalize @rC = x_rC; generalize @nR = x_nR; generalize @sC = x_sC; generalize @iC = x_iC; generalize @nS = x_nS; generalize @nI = x_nI; cbv) ?_ (fun ⟨i, D⟩ hI => ?_)
  · exact ⟨by omega, by omega, rfl, hI0⟩
  obtain ⟨i1, i2, i3, i4⟩ := hI
  generalize y_rC : @rC = x_rC at *
  generalize y_nR : @nR = x_nR at *
  generalize y_sC : @sC = x_sC at *
  generalize y_iC : @iC = x_iC at *
  generalize y_nS : @nS = x_nS at *
  generalize y_nI : @nI = x_nI at *
  (repeat' first | (refine ⟨.inl rfl, ret_oku hj (by cbv) (by cbv) rfl ?_ ?_ (upd_of ?_)⟩) | ((first | with_reducible refine tr_cut (fun h => ?_) (fun h => ?_) | refine aw_condj (by cbv) (fun h => ?_) (fun h => ?_)) <;> (try simp (disch := omega) only [hj, std, cmpI, cmpB, satB, Bool.not_eq_true, Bool.not_eq_false, decide_eq_true_eq, decide_eq_false_iff_not, beq_iff_eq, bne_iff_ne, bne_eq_false_iff_eq, beq_eq_false_iff_ne, ne_eq, reduceCtorEq, not_true_eq_false, not_false_eq_true, pl0, if_true, cmpS_eq, cmpS_neq, Bool.not_eq_eq_eq_not, Bool.not_true, Bool.not_false, Bool.not_eq_true', add64, sub64] at h) <;> (try (exfalso; omega))) | (with_reducible refine tr_alt (fun h => ?_) ?_ <;> (try (exfalso; omega))) | (with_reducible refine tr_ob ?_ ?_) | (with_reducible refine tr_done ?_) | (refine aw_tr hj tok (bookRd F) (by cbv) ?_) | (refine aw_seq fun K hK => ?_) | (refine aw_tr1 hj tok (bookRd F) (by cbv) ?_) | (refine aw_skip ?_) | (refine aw_block ?_) | (refine aw_exit ?_) | (refine aw_ret ⟨.inr rfl, ret_okj hj (by cbv) ?_ ?_⟩) | (refine aw_ret ?_) | (with_reducible refine th_n ?_) | (with_reducible refine th_r ?_) | (with_reducible refine th_x ?_) | (with_reducible refine blk_n ?_) | (with_reducible refine blk_r ?_) | (with_reducible refine blk_x ?_) | (with_reducible refine blk_y rfl ?_) | (refine ⟨.inr rfl, ret_okj hj (by cbv) ?_ ?_⟩) | (refine ⟨.inl rfl, ret_okj hj (by cbv) ?_ ?_⟩) | ((with_reducible refine ⟨(_, _, _, _, _, _, _), by cbv, ?_, ?_⟩)) | ((with_reducible refine ⟨(_, _, _, _, _, _), by cbv, ?_, ?_⟩)) | ((with_reducible refine ⟨(_, _, _, _, _), by cbv, ?_, ?_⟩)) | ((with_reducible refine ⟨(_, _, _, _), by cbv, ?_, ?_⟩)) | ((with_reducible refine ⟨(_, _, _), by cbv, ?_, ?_⟩)) | ((with_reducible refine ⟨(_, _), by cbv, ?_, ?_⟩)) | ((with_reducible refine ⟨_, by cbv, ?_, ?_⟩)) | (with_reducible apply_assumption -symm -exfalso only [*]))
  all_goals ((try subst y_rC); (try subst y_nR); (try subst y_sC); (try subst y_iC); (try subst y_nS); (try subst y_nI))
  all_goals (try (repeat' first | with_reducible exact obl0 | with_reducible refine obl1 ?_ ?_))
  all_goals (try first | with_reducible exact True.intro | ((first | refine ob_le hj ?_ | refine ob_lei hj ?_ | refine ob_inb hj ?_ | refine ob_pos hj ?_ | refine ob_ne0 hj ?_ | refine ob_eqb hj ?_); (first | rfl | first | omega | (simp only [hj, std]; split <;> omega) | (simp (disch := omega) only [hj, std, cmpI, cmpB, satB, add64, sub64, ite0, pl0, pl2, pl3, sb0, if_true, if_false, eq_self] <;> omega) | (simp (disch := omega) [hj, std, cmpI, cmpB, satB, add64, sub64, ite0, pl0, pl2, pl3, sb0, if_true, if_false, eq_self] <;> omega))) | (exact rfl) | ((refine upd_none (upd_none (upd_box ?_ (upd_nil _))); refine congrArg (fun D => Root.box [RC.own intT m D]) ?_; rw [i3]; congr 1; omega)))
  have hil : i < nS ns + 1 := by assumption
  refine aw_lpj hj [(1, .keep), (2, .keep), (9, .keep), (10, .keep), (13, .keep), (14, .keep), (15, .keep)] [2] (fun (⟨k, E⟩ : Int × (List C)) => stOfR 24 [(1, .one (.fn f [27])), (2, .one (.ptr 2 0)), (9, .one (.c (vI (j.arith .add .i64 (j.ofNat (nS ns)) 1)))), (10, .one (.c (vI i))), (13, .one (.c ((C.sl (nR rs) (rC rs))))), (14, .one (.c (vI (j.ofNat (nR rs))))), (15, .one (.c (vI k)))] [(2, .box [.st ((C.sl (nS ns) (sC ns))), .st ((C.sl (nS ts) (sC ts))), .st ((C.sl (nR rs) (rC rs)))])] [.none, .none, .box [.own intT m E]]) (fun (⟨k, E⟩ : Int × (List C)) => nR rs - k.toNat) (fun (⟨k, E⟩ : Int × (List C)) => 0 ≤ k ∧ k ≤ nR rs ∧ E = passF F (rs.take k.toNat) D ∧ I E) ((0, D)) (by generalize @rC = x_rC; generalize @nR = x_nR; generalize @sC = x_sC; generalize @iC = x_iC; generalize @nS = x_nS; generalize @nI = x_nI; cbv) ?_ (fun ⟨k, E⟩ hI => ?_)
  · exact ⟨by omega, by omega, rfl, i4⟩
  obtain ⟨k1, k2, k3, k4⟩ := hI
  have hp : k < nR rs → (std Try.prog T).pc f [.v true [vI (gi (cellAt (rC rs) (k.toNat * 2))), .sl (gn (cellAt (rC rs) (k.toNat * 2 + 1))) (gc (cellAt (rC rs) (k.toNat * 2 + 1)))], .root (.box [.own intT m E])] (rets []) [.none, .box [.own intT m (F (gi (cellAt (rC rs) (k.toNat * 2))) (gc (cellAt (rC rs) (k.toNat * 2 + 1))) E)]] := fun h => by
    rw [gi_rC, gn_rC, gc_rC]; exact (hstep E k4 _ (rAt_mem rs k k1 h)).2
  have hI2 : k < nR rs → I (F (gi (cellAt (rC rs) (k.toNat * 2))) (gc (cellAt (rC rs) (k.toNat * 2 + 1))) E) := fun h => by
    rw [gi_rC, gc_rC]; exact (hstep E k4 _ (rAt_mem rs k k1 h)).1
  have hn2 : k < nR rs → F (gi (cellAt (rC rs) (k.toNat * 2))) (gc (cellAt (rC rs) (k.toNat * 2 + 1))) E = passF F (rs.take (k + 1).toNat) D := fun h => by
    rw [gi_rC, gc_rC, passF_next k1 h, k3]
  have hend : ¬ k < nR rs → E = iterF F rs (i + 1).toNat D0 := fun h => by
    rw [k3, passF_all h, i3, show (i + 1).toNat = i.toNat + 1 by omega]; rfl
  generalize y_rC : @rC = x_rC at *
  generalize y_nR : @nR = x_nR at *
  generalize y_sC : @sC = x_sC at *
  generalize y_iC : @iC = x_iC at *
  generalize y_nS : @nS = x_nS at *
  generalize y_nI : @nI = x_nI at *
  (repeat' first | ((first | with_reducible refine tr_cut (fun h => ?_) (fun h => ?_) | refine aw_condj (by cbv) (fun h => ?_) (fun h => ?_)) <;> (try simp (disch := omega) only [hj, std, cmpI, cmpB, satB, Bool.not_eq_true, Bool.not_eq_false, decide_eq_true_eq, decide_eq_false_iff_not, beq_iff_eq, bne_iff_ne, bne_eq_false_iff_eq, beq_eq_false_iff_ne, ne_eq, reduceCtorEq, not_true_eq_false, not_false_eq_true, pl0, if_true, cmpS_eq, cmpS_neq, Bool.not_eq_eq_eq_not, Bool.not_true, Bool.not_false, Bool.not_eq_true', add64, sub64] at h) <;> (try (exfalso; omega))) | (with_reducible refine tr_alt (fun h => ?_) ?_ <;> (try (exfalso; omega))) | (with_reducible refine tr_ob ?_ ?_) | (with_reducible refine tr_done ?_) | (refine aw_tr hj tok (bookRd F) (by cbv) ?_) | (refine aw_seq fun K hK => ?_) | (refine aw_tr1 hj tok (bookRd F) (by cbv) ?_) | (refine aw_skip ?_) | (refine aw_block ?_) | (refine aw_exit ?_) | (refine aw_ret ⟨.inr rfl, ret_okj hj (by cbv) ?_ ?_⟩) | (refine aw_ret ?_) | (with_reducible refine th_n ?_) | (with_reducible refine th_r ?_) | (with_reducible refine th_x ?_) | (with_reducible refine blk_n ?_) | (with_reducible refine blk_r ?_) | (with_reducible refine blk_x ?_) | (with_reducible refine blk_y rfl ?_) | (refine ⟨.inr rfl, ret_okj hj (by cbv) ?_ ?_⟩) | (refine ⟨.inl rfl, ret_okj hj (by cbv) ?_ ?_⟩) | ((with_reducible refine ⟨(_, _, _, _, _, _, _), by cbv, ?_, ?_⟩)) | ((with_reducible refine ⟨(_, _, _, _, _, _), by cbv, ?_, ?_⟩)) | ((with_reducible refine ⟨(_, _, _, _, _), by cbv, ?_, ?_⟩)) | ((with_reducible refine ⟨(_, _, _, _), by cbv, ?_, ?_⟩)) | ((with_reducible refine ⟨(_, _, _), by cbv, ?_, ?_⟩)) | ((with_reducible refine ⟨(_, _), by cbv, ?_, ?_⟩)) | ((with_reducible refine ⟨_, by cbv, ?_, ?_⟩)) | (with_reducible apply_assumption -symm -exfalso only [*]))
  all_goals ((try subst y_rC); (try subst y_nR); (try subst y_sC); (try subst y_iC); (try subst y_nS); (try subst y_nI))
  all_goals (try (repeat' first | with_reducible exact obl0 | with_reducible refine obl1 ?_ ?_))
  all_goals (try first | with_reducible exact True.intro | (refine ob_pc hj ?_; (try rw [hj]); first | exact hp (by omega)) | (refine ob_pcn hj ?_; (try rw [hj]); first | exact hp (by omega)) | ((first | refine ob_le hj ?_ | refine ob_lei hj ?_ | refine ob_inb hj ?_ | refine ob_pos hj ?_ | refine ob_ne0 hj ?_ | refine ob_eqb hj ?_); (first | rfl | first | omega | (simp only [hj, std]; split <;> omega) | (simp (disch := omega) only [hj, std, cmpI, cmpB, satB, add64, sub64, ite0, pl0, pl2, pl3, sb0, if_true, if_false, eq_self, rC_len] <;> omega) | (simp (disch := omega) [hj, std, cmpI, cmpB, satB, add64, sub64, ite0, pl0, pl2, pl3, sb0, if_true, if_false, eq_self, rC_len] <;> omega))) | ((refine ob_ok hj ?_; simp only [hj, std, ite0]; first | exact ok_rC1 (by omega) | exact ok_rC0 (by omega))) | ((refine ob_vals hj ?_; rw [hj]; exact hv _ (hI2 (by omega)))) | ((refine ob_vals hj ?_; exact hv _ k4)) | ((simp (disch := omega) only [hj, std, add64]; first | omega | exact ⟨by omega, by omega, hn2 (by omega), hI2 (by omega)⟩ | exact ⟨by omega, by omega, hend (by omega), k4⟩)))
theorem pc_roundsB (ns ts : List ByteArray) (rs : List Rl) (f : FuncId) (F : Int → List C → List C → List C) (I : List C → Prop) (m : Nat) (D0 : List C) (hI0 : I D0) (hn : nS ns ≤ 1000000) (hr : nR rs ≤ 1000000) (hv : ∀ D, I D → ∀ c ∈ D, ∃ v, c = .val v)
    (hstep : ∀ D, I D → ∀ r ∈ rs, I (F r.1 (iC r.2) D) ∧ (std Try.prog T).pc f [.v true [vI r.1, (C.sl (nI r.2) (iC r.2))], .root (.box [.own boolT m D])] (rets []) [.none, .box [.own boolT m (F r.1 (iC r.2) D)]]) :
    PC Try.prog T 42 [.v true [(C.sl (nS ns) (sC ns)), (C.sl (nS ts) (sC ts)), (C.sl (nR rs) (rC rs))], .clo f [2], .virt (.box [.own boolT m D0])] (rets []) [.none, .none, .box [.own boolT m (iterF F rs (nS ns + 1) D0)]] := by
  refine pc_of tok Try.func42 rfl (by rfl) ?_
  obtain ⟨j, hj⟩ : ∃ j : J, j = std Try.prog T := ⟨_, rfl⟩
  have hm : Try.prog.follows .mixedOrders = true := by kernel_rfl
  have nn := nS_eq ns; have nr := nR_eq rs
  have e0 : arithI .add .i64 (nS ns) 1 = nS ns + 1 := add64 (by omega) (by omega)
  generalize y_rC : @rC = x_rC at *
  generalize y_nR : @nR = x_nR at *
  generalize y_sC : @sC = x_sC at *
  generalize y_iC : @iC = x_iC at *
  generalize y_nS : @nS = x_nS at *
  generalize y_nI : @nI = x_nI at *
  (repeat' first | (refine ⟨.inl rfl, ret_oku hj (by cbv) (by cbv) rfl ?_ ?_ (upd_of ?_)⟩) | ((first | with_reducible refine tr_cut (fun h => ?_) (fun h => ?_) | refine aw_condj (by cbv) (fun h => ?_) (fun h => ?_)) <;> (try simp (disch := omega) only [hj, std, cmpI, cmpB, satB, Bool.not_eq_true, Bool.not_eq_false, decide_eq_true_eq, decide_eq_false_iff_not, beq_iff_eq, bne_iff_ne, bne_eq_false_iff_eq, beq_eq_false_iff_ne, ne_eq, reduceCtorEq, not_true_eq_false, not_false_eq_true, pl0, if_true, cmpS_eq, cmpS_neq, Bool.not_eq_eq_eq_not, Bool.not_true, Bool.not_false, Bool.not_eq_true', add64, sub64] at h) <;> (try (exfalso; omega))) | (with_reducible refine tr_alt (fun h => ?_) ?_ <;> (try (exfalso; omega))) | (with_reducible refine tr_ob ?_ ?_) | (with_reducible refine tr_done ?_) | (refine aw_tr hj tok (bookRd F) (by cbv) ?_) | (refine aw_seq fun K hK => ?_) | (refine aw_tr1 hj tok (bookRd F) (by cbv) ?_) | (refine aw_skip ?_) | (refine aw_block ?_) | (refine aw_exit ?_) | (refine aw_ret ⟨.inr rfl, ret_okj hj (by cbv) ?_ ?_⟩) | (refine aw_ret ?_) | (with_reducible refine th_n ?_) | (with_reducible refine th_r ?_) | (with_reducible refine th_x ?_) | (with_reducible refine blk_n ?_) | (with_reducible refine blk_r ?_) | (with_reducible refine blk_x ?_) | (with_reducible refine blk_y rfl ?_) | (refine ⟨.inr rfl, ret_okj hj (by cbv) ?_ ?_⟩) | (refine ⟨.inl rfl, ret_okj hj (by cbv) ?_ ?_⟩) | ((with_reducible refine ⟨(_, _, _, _, _, _, _), by cbv, ?_, ?_⟩)) | ((with_reducible refine ⟨(_, _, _, _, _, _), by cbv, ?_, ?_⟩)) | ((with_reducible refine ⟨(_, _, _, _, _), by cbv, ?_, ?_⟩)) | ((with_reducible refine ⟨(_, _, _, _), by cbv, ?_, ?_⟩)) | ((with_reducible refine ⟨(_, _, _), by cbv, ?_, ?_⟩)) | ((with_reducible refine ⟨(_, _), by cbv, ?_, ?_⟩)) | ((with_reducible refine ⟨_, by cbv, ?_, ?_⟩)) | (with_reducible apply_assumption -symm -exfalso only [*]))
  all_goals ((try subst y_rC); (try subst y_nR); (try subst y_sC); (try subst y_iC); (try subst y_nS); (try subst y_nI))
  refine aw_lpj hj [(1, .keep), (2, .keep), (9, .keep), (10, .keep)] [2] (fun (⟨i, D⟩ : Int × (List C)) => stOfR 24 [(1, .one (.fn f [27])), (2, .one (.ptr 2 0)), (9, .one (.c (vI (j.arith .add .i64 (j.ofNat (nS ns)) 1)))), (10, .one (.c (vI i)))] [(2, .box [.st ((C.sl (nS ns) (sC ns))), .st ((C.sl (nS ts) (sC ts))), .st ((C.sl (nR rs) (rC rs)))])] [.none, .none, .box [.own boolT m D]]) (fun (⟨i, D⟩ : Int × (List C)) => nS ns + 1 - i.toNat) (fun (⟨i, D⟩ : Int × (List C)) => 0 ≤ i ∧ i ≤ nS ns + 1 ∧ D = iterF F rs i.toNat D0 ∧ I D) ((0, D0)) (by generalize @rC = x_rC; generalize @nR = x_nR; generalize @sC = x_sC; generalize @iC = x_iC; generalize @nS = x_nS; generalize @nI = x_nI; cbv) ?_ (fun ⟨i, D⟩ hI => ?_)
  · exact ⟨by omega, by omega, rfl, hI0⟩
  obtain ⟨i1, i2, i3, i4⟩ := hI
  generalize y_rC : @rC = x_rC at *
  generalize y_nR : @nR = x_nR at *
  generalize y_sC : @sC = x_sC at *
  generalize y_iC : @iC = x_iC at *
  generalize y_nS : @nS = x_nS at *
  generalize y_nI : @nI = x_nI at *
  (repeat' first | (refine ⟨.inl rfl, ret_oku hj (by cbv) (by cbv) rfl ?_ ?_ (upd_of ?_)⟩) | ((first | with_reducible refine tr_cut (fun h => ?_) (fun h => ?_) | refine aw_condj (by cbv) (fun h => ?_) (fun h => ?_)) <;> (try simp (disch := omega) only [hj, std, cmpI, cmpB, satB, Bool.not_eq_true, Bool.not_eq_false, decide_eq_true_eq, decide_eq_false_iff_not, beq_iff_eq, bne_iff_ne, bne_eq_false_iff_eq, beq_eq_false_iff_ne, ne_eq, reduceCtorEq, not_true_eq_false, not_false_eq_true, pl0, if_true, cmpS_eq, cmpS_neq, Bool.not_eq_eq_eq_not, Bool.not_true, Bool.not_false, Bool.not_eq_true', add64, sub64] at h) <;> (try (exfalso; omega))) | (with_reducible refine tr_alt (fun h => ?_) ?_ <;> (try (exfalso; omega))) | (with_reducible refine tr_ob ?_ ?_) | (with_reducible refine tr_done ?_) | (refine aw_tr hj tok (bookRd F) (by cbv) ?_) | (refine aw_seq fun K hK => ?_) | (refine aw_tr1 hj tok (bookRd F) (by cbv) ?_) | (refine aw_skip ?_) | (refine aw_block ?_) | (refine aw_exit ?_) | (refine aw_ret ⟨.inr rfl, ret_okj hj (by cbv) ?_ ?_⟩) | (refine aw_ret ?_) | (with_reducible refine th_n ?_) | (with_reducible refine th_r ?_) | (with_reducible refine th_x ?_) | (with_reducible refine blk_n ?_) | (with_reducible refine blk_r ?_) | (with_reducible refine blk_x ?_) | (with_reducible refine blk_y rfl ?_) | (refine ⟨.inr rfl, ret_okj hj (by cbv) ?_ ?_⟩) | (refine ⟨.inl rfl, ret_okj hj (by cbv) ?_ ?_⟩) | ((with_reducible refine ⟨(_, _, _, _, _, _, _), by cbv, ?_, ?_⟩)) | ((with_reducible refine ⟨(_, _, _, _, _, _), by cbv, ?_, ?_⟩)) | ((with_reducible refine ⟨(_, _, _, _, _), by cbv, ?_, ?_⟩)) | ((with_reducible refine ⟨(_, _, _, _), by cbv, ?_, ?_⟩)) | ((with_reducible refine ⟨(_, _, _), by cbv, ?_, ?_⟩)) | ((with_reducible refine ⟨(_, _), by cbv, ?_, ?_⟩)) | ((with_reducible refine ⟨_, by cbv, ?_, ?_⟩)) | (with_reducible apply_assumption -symm -exfalso only [*]))
  all_goals ((try subst y_rC); (try subst y_nR); (try subst y_sC); (try subst y_iC); (try subst y_nS); (try subst y_nI))
  all_goals (try (repeat' first | with_reducible exact obl0 | with_reducible refine obl1 ?_ ?_))
  all_goals (try first | with_reducible exact True.intro | ((first | refine ob_le hj ?_ | refine ob_lei hj ?_ | refine ob_inb hj ?_ | refine ob_pos hj ?_ | refine ob_ne0 hj ?_ | refine ob_eqb hj ?_); (first | rfl | first | omega | (simp only [hj, std]; split <;> omega) | (simp (disch := omega) only [hj, std, cmpI, cmpB, satB, add64, sub64, ite0, pl0, pl2, pl3, sb0, if_true, if_false, eq_self] <;> omega) | (simp (disch := omega) [hj, std, cmpI, cmpB, satB, add64, sub64, ite0, pl0, pl2, pl3, sb0, if_true, if_false, eq_self] <;> omega))) | (exact rfl) | ((refine upd_none (upd_none (upd_box ?_ (upd_nil _))); refine congrArg (fun D => Root.box [RC.own boolT m D]) ?_; rw [i3]; congr 1; omega)))
  have hil : i < nS ns + 1 := by assumption
  refine aw_lpj hj [(1, .keep), (2, .keep), (9, .keep), (10, .keep), (13, .keep), (14, .keep), (15, .keep)] [2] (fun (⟨k, E⟩ : Int × (List C)) => stOfR 24 [(1, .one (.fn f [27])), (2, .one (.ptr 2 0)), (9, .one (.c (vI (j.arith .add .i64 (j.ofNat (nS ns)) 1)))), (10, .one (.c (vI i))), (13, .one (.c ((C.sl (nR rs) (rC rs))))), (14, .one (.c (vI (j.ofNat (nR rs))))), (15, .one (.c (vI k)))] [(2, .box [.st ((C.sl (nS ns) (sC ns))), .st ((C.sl (nS ts) (sC ts))), .st ((C.sl (nR rs) (rC rs)))])] [.none, .none, .box [.own boolT m E]]) (fun (⟨k, E⟩ : Int × (List C)) => nR rs - k.toNat) (fun (⟨k, E⟩ : Int × (List C)) => 0 ≤ k ∧ k ≤ nR rs ∧ E = passF F (rs.take k.toNat) D ∧ I E) ((0, D)) (by generalize @rC = x_rC; generalize @nR = x_nR; generalize @sC = x_sC; generalize @iC = x_iC; generalize @nS = x_nS; generalize @nI = x_nI; cbv) ?_ (fun ⟨k, E⟩ hI => ?_)
  · exact ⟨by omega, by omega, rfl, i4⟩
  obtain ⟨k1, k2, k3, k4⟩ := hI
  have hp : k < nR rs → (std Try.prog T).pc f [.v true [vI (gi (cellAt (rC rs) (k.toNat * 2))), .sl (gn (cellAt (rC rs) (k.toNat * 2 + 1))) (gc (cellAt (rC rs) (k.toNat * 2 + 1)))], .root (.box [.own boolT m E])] (rets []) [.none, .box [.own boolT m (F (gi (cellAt (rC rs) (k.toNat * 2))) (gc (cellAt (rC rs) (k.toNat * 2 + 1))) E)]] := fun h => by
    rw [gi_rC, gn_rC, gc_rC]; exact (hstep E k4 _ (rAt_mem rs k k1 h)).2
  have hI2 : k < nR rs → I (F (gi (cellAt (rC rs) (k.toNat * 2))) (gc (cellAt (rC rs) (k.toNat * 2 + 1))) E) := fun h => by
    rw [gi_rC, gc_rC]; exact (hstep E k4 _ (rAt_mem rs k k1 h)).1
  have hn2 : k < nR rs → F (gi (cellAt (rC rs) (k.toNat * 2))) (gc (cellAt (rC rs) (k.toNat * 2 + 1))) E = passF F (rs.take (k + 1).toNat) D := fun h => by
    rw [gi_rC, gc_rC, passF_next k1 h, k3]
  have hend : ¬ k < nR rs → E = iterF F rs (i + 1).toNat D0 := fun h => by
    rw [k3, passF_all h, i3, show (i + 1).toNat = i.toNat + 1 by omega]; rfl
  generalize y_rC : @rC = x_rC at *
  generalize y_nR : @nR = x_nR at *
  generalize y_sC : @sC = x_sC at *
  generalize y_iC : @iC = x_iC at *
  generalize y_nS : @nS = x_nS at *
  generalize y_nI : @nI = x_nI at *
  (repeat' first | ((first | with_reducible refine tr_cut (fun h => ?_) (fun h => ?_) | refine aw_condj (by cbv) (fun h => ?_) (fun h => ?_)) <;> (try simp (disch := omega) only [hj, std, cmpI, cmpB, satB, Bool.not_eq_true, Bool.not_eq_false, decide_eq_true_eq, decide_eq_false_iff_not, beq_iff_eq, bne_iff_ne, bne_eq_false_iff_eq, beq_eq_false_iff_ne, ne_eq, reduceCtorEq, not_true_eq_false, not_false_eq_true, pl0, if_true, cmpS_eq, cmpS_neq, Bool.not_eq_eq_eq_not, Bool.not_true, Bool.not_false, Bool.not_eq_true', add64, sub64] at h) <;> (try (exfalso; omega))) | (with_reducible refine tr_alt (fun h => ?_) ?_ <;> (try (exfalso; omega))) | (with_reducible refine tr_ob ?_ ?_) | (with_reducible refine tr_done ?_) | (refine aw_tr hj tok (bookRd F) (by cbv) ?_) | (refine aw_seq fun K hK => ?_) | (refine aw_tr1 hj tok (bookRd F) (by cbv) ?_) | (refine aw_skip ?_) | (refine aw_block ?_) | (refine aw_exit ?_) | (refine aw_ret ⟨.inr rfl, ret_okj hj (by cbv) ?_ ?_⟩) | (refine aw_ret ?_) | (with_reducible refine th_n ?_) | (with_reducible refine th_r ?_) | (with_reducible refine th_x ?_) | (with_reducible refine blk_n ?_) | (with_reducible refine blk_r ?_) | (with_reducible refine blk_x ?_) | (with_reducible refine blk_y rfl ?_) | (refine ⟨.inr rfl, ret_okj hj (by cbv) ?_ ?_⟩) | (refine ⟨.inl rfl, ret_okj hj (by cbv) ?_ ?_⟩) | ((with_reducible refine ⟨(_, _, _, _, _, _, _), by cbv, ?_, ?_⟩)) | ((with_reducible refine ⟨(_, _, _, _, _, _), by cbv, ?_, ?_⟩)) | ((with_reducible refine ⟨(_, _, _, _, _), by cbv, ?_, ?_⟩)) | ((with_reducible refine ⟨(_, _, _, _), by cbv, ?_, ?_⟩)) | ((with_reducible refine ⟨(_, _, _), by cbv, ?_, ?_⟩)) | ((with_reducible refine ⟨(_, _), by cbv, ?_, ?_⟩)) | ((with_reducible refine ⟨_, by cbv, ?_, ?_⟩)) | (with_reducible apply_assumption -symm -exfalso only [*]))
  all_goals ((try subst y_rC); (try subst y_nR); (try subst y_sC); (try subst y_iC); (try subst y_nS); (try subst y_nI))
  all_goals (try (repeat' first | with_reducible exact obl0 | with_reducible refine obl1 ?_ ?_))
  all_goals (try first | with_reducible exact True.intro | (refine ob_pc hj ?_; (try rw [hj]); first | exact hp (by omega)) | (refine ob_pcn hj ?_; (try rw [hj]); first | exact hp (by omega)) | ((first | refine ob_le hj ?_ | refine ob_lei hj ?_ | refine ob_inb hj ?_ | refine ob_pos hj ?_ | refine ob_ne0 hj ?_ | refine ob_eqb hj ?_); (first | rfl | first | omega | (simp only [hj, std]; split <;> omega) | (simp (disch := omega) only [hj, std, cmpI, cmpB, satB, add64, sub64, ite0, pl0, pl2, pl3, sb0, if_true, if_false, eq_self, rC_len] <;> omega) | (simp (disch := omega) [hj, std, cmpI, cmpB, satB, add64, sub64, ite0, pl0, pl2, pl3, sb0, if_true, if_false, eq_self, rC_len] <;> omega))) | ((refine ob_ok hj ?_; simp only [hj, std, ite0]; first | exact ok_rC1 (by omega) | exact ok_rC0 (by omega))) | ((refine ob_vals hj ?_; rw [hj]; exact hv _ (hI2 (by omega)))) | ((refine ob_vals hj ?_; exact hv _ k4)) | ((simp (disch := omega) only [hj, std, add64]; first | omega | exact ⟨by omega, by omega, hn2 (by omega), hI2 (by omega)⟩ | exact ⟨by omega, by omega, hend (by omega), k4⟩)))
end Go.Proofs.Ytdmdcmhgfgookaa.A

/- Grammars that are well made: a slice of one number, again and again. -/
set_option linter.unusedSimpArgs false
set_option linter.unusedVariables false
set_option maxRecDepth 100000
set_option maxHeartbeats 4000000
namespace Go.Proofs.Ytdmdcmhgfgookaa.A
open Go
theorem wrapU64 {a : Int} (h1 : 0 ≤ a) (h2 : a < 18446744073709551616) : IntKind.u64.wrap a = a := by
  show a % (2 ^ 64) = a
  exact Int.emod_eq_of_lt h1 h2
theorem and32 {n : Int} (h0 : 0 ≤ n) (h : n < 4294967296) : arithI .and .u64 n 4294967295 = n := by
  obtain ⟨m, rfl⟩ := Int.eq_ofNat_of_zero_le h0
  have e : (BitVec.ofInt 64 (m : Int) &&& BitVec.ofInt 64 4294967295).toNat = m := by
    rw [show BitVec.ofInt 64 (m : Int) = BitVec.ofNat 64 m from BitVec.ofInt_natCast .., BitVec.toNat_and, BitVec.toNat_ofNat]
    rw [show (BitVec.ofInt 64 4294967295).toNat = 2 ^ 32 - 1 from rfl, Nat.and_two_pow_sub_one_eq_mod]
    omega
  show IntKind.u64.wrap (((BitVec.ofInt 64 (m : Int) &&& BitVec.ofInt 64 4294967295).toNat : Nat) : Int) = (m : Int)
  rw [e, wrapU64 (by omega) (by omega)]
theorem shr32 {n : Int} (h0 : 0 ≤ n) (h : n < 4294967296) : arithI .shr .u64 n 32 = 0 := by
  show n.fdiv (2 ^ min (32 : Int).toNat 64) = 0
  rw [show (2 : Int) ^ min (32 : Int).toNat 64 = 4294967296 from rfl, Int.fdiv_eq_ediv_of_nonneg _ (by omega)]
  omega
theorem mulU {a b : Int} (h1 : 0 ≤ a * b) (h2 : a * b < 18446744073709551616) : arithI .mul .u64 a b = a * b := wrapU64 h1 h2
theorem addU {a b : Int} (h1 : 0 ≤ a + b) (h2 : a + b < 18446744073709551616) : arithI .add .u64 a b = a + b := wrapU64 h1 h2
abbrev vU64 (n : Int) : C := .val (.int .u64 n)
def rMul (n : Int) : RV := rets [(false, [.st (vU64 0)]), (false, [.st (vU64 n)])]
theorem c_Mul64 {n : Int} (h0 : 0 ≤ n) (hb : n ≤ 1000000) : pc 98 [.v false [vU64 1], .v false [vU64 n]] (rMul n) := by
  refine ⟨enters Try.func98 (by kernel_rfl) (by kernel_rfl), pc_of tok Try.func98 rfl (by rfl) ?_⟩
  obtain ⟨j, hj⟩ : ∃ j : J, j = std Try.prog T := ⟨_, rfl⟩
  have hm : Try.prog.follows .mixedOrders = true := by kernel_rfl
  (repeat' first | ((first | with_reducible refine tr_cut (fun h => ?_) (fun h => ?_) | refine aw_condj (by cbv) (fun h => ?_) (fun h => ?_)) <;> (try simp (disch := omega) only [hj, std, cmpI, cmpB, satB, Bool.not_eq_true, Bool.not_eq_false, decide_eq_true_eq, decide_eq_false_iff_not, beq_iff_eq, bne_iff_ne, bne_eq_false_iff_eq, beq_eq_false_iff_ne, ne_eq, reduceCtorEq, not_true_eq_false, not_false_eq_true, pl0, if_true, cmpS_eq, cmpS_neq, Bool.not_eq_eq_eq_not, Bool.not_true, Bool.not_false, Bool.not_eq_true', add64, sub64] at h) <;> (try (exfalso; omega))) | (with_reducible refine tr_alt (fun h => ?_) ?_ <;> (try (exfalso; omega))) | (with_reducible refine tr_ob ?_ ?_) | (with_reducible refine tr_done ?_) | (refine aw_tr hj tok book0 (by cbv) ?_) | (refine aw_seq fun K hK => ?_) | (refine aw_tr1 hj tok book0 (by cbv) ?_) | (refine aw_skip ?_) | (refine aw_block ?_) | (refine aw_exit ?_) | (refine aw_ret ⟨.inr rfl, ret_okj hj (by cbv) ?_ ?_⟩) | (refine aw_ret ?_) | (with_reducible refine th_n ?_) | (with_reducible refine th_r ?_) | (with_reducible refine th_x ?_) | (with_reducible refine blk_n ?_) | (with_reducible refine blk_r ?_) | (with_reducible refine blk_x ?_) | (with_reducible refine blk_y rfl ?_) | (refine ⟨.inr rfl, ret_okj hj (by cbv) ?_ ?_⟩) | (refine ⟨.inl rfl, ret_okj hj (by cbv) ?_ ?_⟩) | ((with_reducible refine ⟨(_, _, _, _, _, _, _), by cbv, ?_, ?_⟩)) | ((with_reducible refine ⟨(_, _, _, _, _, _), by cbv, ?_, ?_⟩)) | ((with_reducible refine ⟨(_, _, _, _, _), by cbv, ?_, ?_⟩)) | ((with_reducible refine ⟨(_, _, _, _), by cbv, ?_, ?_⟩)) | ((with_reducible refine ⟨(_, _, _), by cbv, ?_, ?_⟩)) | ((with_reducible refine ⟨(_, _), by cbv, ?_, ?_⟩)) | ((with_reducible refine ⟨_, by cbv, ?_, ?_⟩)) | (with_reducible apply_assumption -symm -exfalso only [*]))
  all_goals (try (repeat' first | with_reducible exact obl0 | with_reducible refine obl1 ?_ ?_))
  all_goals (try first | with_reducible exact True.intro | ((first | refine ob_le hj ?_ | refine ob_lei hj ?_ | refine ob_inb hj ?_ | refine ob_pos hj ?_ | refine ob_ne0 hj ?_ | refine ob_eqb hj ?_); (first | rfl | first | omega | (simp only [hj, std]; split <;> omega) | (simp (disch := omega) only [hj, std, cmpI, cmpB, satB, add64, sub64, ite0, pl0, pl2, pl3, sb0, if_true, if_false, eq_self] <;> omega) | (simp (disch := omega) [hj, std, cmpI, cmpB, satB, add64, sub64, ite0, pl0, pl2, pl3, sb0, if_true, if_false, eq_self] <;> omega))) | (skip))
  have b1 : arithI .and .u64 1 4294967295 = 1 := and32 (by omega) (by omega)
  have b2 : arithI .shr .u64 1 32 = 0 := shr32 (by omega) (by omega)
  have b3 : arithI .and .u64 n 4294967295 = n := and32 (by omega) (by omega)
  have b4 : arithI .shr .u64 n 32 = 0 := shr32 (by omega) (by omega)
  have b5 : arithI .mul .u64 1 n = n := by rw [mulU (by omega) (by omega)]; omega
  have b6 : arithI .mul .u64 0 n = 0 := by rw [mulU (by omega) (by omega)]; omega
  have b7 : arithI .mul .u64 0 0 = 0 := rfl
  have b8 : arithI .mul .u64 1 0 = 0 := rfl
  have b9 : arithI .add .u64 0 0 = 0 := rfl
  have b10 : arithI .shr .u64 0 32 = 0 := shr32 (by omega) (by omega)
  have b11 : arithI .and .u64 0 4294967295 = 0 := and32 (by omega) (by omega)
  rw [hj]
  simp only [std, b1, b2, b3, b4, b5, b6, b7, b8, b9, b10, b11]
  rfl
def bookMu : Book := fun f xs => match f, xs with
  | 98, [.v false [.val (.int .u64 _)], .v false [.val (.int .u64 n)]] => some (rets [(false, [.st (vU64 0)]), (false, [.st (vU64 n)])])
  | 71, [.v false [.val (.int .u64 _)], .v false [.val (.int .u64 n)]] => some (rets [(false, [.st (vU64 0)]), (false, [.st (vU64 n)])])
  | _, _ => none
theorem c_Mul {a b : Int} (ha : a = 1) (h0 : 0 ≤ b) (hb : b ≤ 1000000) : pc 71 [.v false [vU64 a], .v false [vU64 b]] (rMul b) := by
  subst ha
  refine ⟨enters Try.func71 (by kernel_rfl) (by kernel_rfl), pc_of tok Try.func71 rfl (by rfl) ?_⟩
  obtain ⟨j, hj⟩ : ∃ j : J, j = std Try.prog T := ⟨_, rfl⟩
  have hm : Try.prog.follows .mixedOrders = true := by kernel_rfl
  (repeat' first | ((first | with_reducible refine tr_cut (fun h => ?_) (fun h => ?_) | refine aw_condj (by cbv) (fun h => ?_) (fun h => ?_)) <;> (try simp (disch := omega) only [hj, std, cmpI, cmpB, satB, Bool.not_eq_true, Bool.not_eq_false, decide_eq_true_eq, decide_eq_false_iff_not, beq_iff_eq, bne_iff_ne, bne_eq_false_iff_eq, beq_eq_false_iff_ne, ne_eq, reduceCtorEq, not_true_eq_false, not_false_eq_true, pl0, if_true, cmpS_eq, cmpS_neq, Bool.not_eq_eq_eq_not, Bool.not_true, Bool.not_false, Bool.not_eq_true', add64, sub64] at h) <;> (try (exfalso; omega))) | (with_reducible refine tr_alt (fun h => ?_) ?_ <;> (try (exfalso; omega))) | (with_reducible refine tr_ob ?_ ?_) | (with_reducible refine tr_done ?_) | (refine aw_tr hj tok bookMu (by cbv) ?_) | (refine aw_seq fun K hK => ?_) | (refine aw_tr1 hj tok bookMu (by cbv) ?_) | (refine aw_skip ?_) | (refine aw_block ?_) | (refine aw_exit ?_) | (refine aw_ret ⟨.inr rfl, ret_okj hj (by cbv) ?_ ?_⟩) | (refine aw_ret ?_) | (with_reducible refine th_n ?_) | (with_reducible refine th_r ?_) | (with_reducible refine th_x ?_) | (with_reducible refine blk_n ?_) | (with_reducible refine blk_r ?_) | (with_reducible refine blk_x ?_) | (with_reducible refine blk_y rfl ?_) | (refine ⟨.inr rfl, ret_okj hj (by cbv) ?_ ?_⟩) | (refine ⟨.inl rfl, ret_okj hj (by cbv) ?_ ?_⟩) | ((with_reducible refine ⟨(_, _, _, _, _, _, _), by cbv, ?_, ?_⟩)) | ((with_reducible refine ⟨(_, _, _, _, _, _), by cbv, ?_, ?_⟩)) | ((with_reducible refine ⟨(_, _, _, _, _), by cbv, ?_, ?_⟩)) | ((with_reducible refine ⟨(_, _, _, _), by cbv, ?_, ?_⟩)) | ((with_reducible refine ⟨(_, _, _), by cbv, ?_, ?_⟩)) | ((with_reducible refine ⟨(_, _), by cbv, ?_, ?_⟩)) | ((with_reducible refine ⟨_, by cbv, ?_, ?_⟩)) | (with_reducible apply_assumption -symm -exfalso only [*]))
  all_goals (try (repeat' first | with_reducible exact obl0 | with_reducible refine obl1 ?_ ?_))
  all_goals (try first | with_reducible exact True.intro | (refine ob_pc hj ?_; (try rw [hj]); first | exact c_Mul64 h0 hb) | (refine ob_pcn hj ?_; (try rw [hj]); first | exact c_Mul64 h0 hb) | ((first | refine ob_le hj ?_ | refine ob_lei hj ?_ | refine ob_inb hj ?_ | refine ob_pos hj ?_ | refine ob_ne0 hj ?_ | refine ob_eqb hj ?_); (first | rfl | first | omega | (simp only [hj, std]; split <;> omega) | (simp (disch := omega) only [hj, std, cmpI, cmpB, satB, add64, sub64, ite0, pl0, pl2, pl3, sb0, if_true, if_false, eq_self] <;> omega) | (simp (disch := omega) [hj, std, cmpI, cmpB, satB, add64, sub64, ite0, pl0, pl2, pl3, sb0, if_true, if_false, eq_self] <;> omega))) | (exact rfl))
theorem iC_setL (l m : List Int) (k : Nat) : setC (iC l) k (iC m) = iC (l.take k ++ m ++ l.drop (k + m.length)) := by simp [setC, iC, List.map_take, List.map_drop]
theorem imin1 {a b : Int} : (if b < a then b else a) = min b a := by omega
theorem rep_init (c : Int) (N : Nat) : 0 ≤ (if ((1 : Nat) : Int) < (N : Int) then ((1 : Nat) : Int) else (N : Int)) ∧ (if ((1 : Nat) : Int) < (N : Int) then ((1 : Nat) : Int) else (N : Int)) ≤ N ∧ (0 < (if ((1 : Nat) : Int) < (N : Int) then ((1 : Nat) : Int) else (N : Int)) ∨ N = 0) ∧
    ∃ L : List Int, setC (repC N [vI 0]) 0 (extC [vI c] 0 (if ((1 : Nat) : Int) < (N : Int) then ((1 : Nat) : Int) else (N : Int)).toNat) = iC L ∧ L.length = N ∧ ∀ a : Nat, (a : Int) < (if ((1 : Nat) : Int) < (N : Int) then ((1 : Nat) : Int) else (N : Int)) → iAt L a = c := by
  cases N with
  | zero => exact ⟨by decide, by decide, .inr rfl, [], rfl, rfl, fun a h => by simp at h; omega⟩
  | succ m =>
    have e : (if ((1 : Nat) : Int) < ((m + 1 : Nat) : Int) then ((1 : Nat) : Int) else ((m + 1 : Nat) : Int)) = 1 := by split <;> omega
    rw [e]
    refine ⟨by omega, by omega, .inl (by omega), c :: List.replicate m 0, ?_, by simp, fun a h => ?_⟩
    · rw [iC_rep, List.replicate_succ]; rfl
    · obtain rfl : a = 0 := by omega
      rfl
theorem rep_step {c : Int} {N k t : Nat} {L : List Int} (ht : k + t ≤ N) (ht2 : t ≤ k) (l1 : L.length = N) (l2 : ∀ a : Nat, a < k → iAt L a = c) : ∃ L' : List Int, setC (iC L) k (extC (extC (iC L) 0 k) 0 t) = iC L' ∧ L'.length = N ∧ ∀ a : Nat, a < k + t → iAt L' a = c := by
  refine ⟨L.take k ++ L.take t ++ L.drop (k + t), ?_, ?_, fun a ha => ?_⟩
  · rw [iC_ext, iC_ext, iC_setL]
    simp only [List.drop_zero, List.length_take, List.take_take]
    rw [show min t k = t by omega, show min t L.length = t by omega]
  · simp only [List.length_append, List.length_take, List.length_drop]; omega
  · rw [iAt, List.getD_eq_getElem?_getD, List.getElem?_append_left (by simp; omega)]
    by_cases h : a < k
    · rw [List.getElem?_append_left (by simp; omega), List.getElem?_take, if_pos h]
      have := l2 a h
      rwa [iAt, List.getD_eq_getElem?_getD] at this
    · rw [List.getElem?_append_right (by simp; omega), List.length_take, show min k L.length = k by omega, List.getElem?_take, if_pos (by omega)]
      have := l2 (a - k) (by omega)
      rwa [iAt, List.getD_eq_getElem?_getD] at this
theorem rep_end {c : Int} {N : Nat} {L : List Int} (l1 : L.length = N) (l2 : ∀ a : Nat, a < N → iAt L a = c) : L = List.replicate N c := by
  apply List.ext_getElem (by simp [l1])
  intro a h1 h2
  have := l2 a (by omega)
  rw [iAt, List.getD_eq_getElem?_getD, List.getElem?_eq_getElem h1] at this
  rw [List.getElem_replicate]; exact this
theorem pc_Repeat (c n : Int) (h0 : 0 ≤ n) (hb : n ≤ 1000000) : PC Try.prog T 45 [.v false [.sl 1 [vI c]], .v false [vI n]] (ret1 (.own intT n.toNat (iC (List.replicate n.toNat c)))) [] := by
  refine pc_of tok Try.func45 rfl (by rfl) ?_
  obtain ⟨j, hj⟩ : ∃ j : J, j = std Try.prog T := ⟨_, rfl⟩
  have hm : Try.prog.follows .mixedOrders = true := by kernel_rfl
  have w1 : IntKind.u64.wrap n = n := wrapU64 h0 (by omega)
  have w2 : IntKind.i64.wrap n = n := wrap64 (by omega) (by omega)
  have w3 : IntKind.u64.wrap 1 = 1 := rfl
  generalize y_iC : @iC = x_iC at *
  (repeat' first | ((first | with_reducible refine tr_cut (fun h => ?_) (fun h => ?_) | refine aw_condj (by cbv) (fun h => ?_) (fun h => ?_)) <;> (try simp (disch := omega) only [hj, std, cmpI, cmpB, satB, Bool.not_eq_true, Bool.not_eq_false, decide_eq_true_eq, decide_eq_false_iff_not, beq_iff_eq, bne_iff_ne, bne_eq_false_iff_eq, beq_eq_false_iff_ne, ne_eq, reduceCtorEq, not_true_eq_false, not_false_eq_true, pl0, if_true, cmpS_eq, cmpS_neq, Bool.not_eq_eq_eq_not, Bool.not_true, Bool.not_false, Bool.not_eq_true', w1, w2, w3, add64, sub64] at h) <;> (try (exfalso; omega))) | (with_reducible refine tr_alt (fun h => ?_) ?_ <;> (try (exfalso; omega))) | (with_reducible refine tr_ob ?_ ?_) | (with_reducible refine tr_done ?_) | (refine aw_tr hj tok bookMu (by cbv) ?_) | (refine aw_seq fun K hK => ?_) | (refine aw_tr1 hj tok bookMu (by cbv) ?_) | (refine aw_skip ?_) | (refine aw_block ?_) | (refine aw_exit ?_) | (refine aw_ret ⟨.inr rfl, ret_okj hj (by cbv) ?_ ?_⟩) | (refine aw_ret ?_) | (with_reducible refine th_n ?_) | (with_reducible refine th_r ?_) | (with_reducible refine th_x ?_) | (with_reducible refine blk_n ?_) | (with_reducible refine blk_r ?_) | (with_reducible refine blk_x ?_) | (with_reducible refine blk_y rfl ?_) | (refine ⟨.inr rfl, ret_okj hj (by cbv) ?_ ?_⟩) | (refine ⟨.inl rfl, ret_okj hj (by cbv) ?_ ?_⟩) | ((with_reducible refine ⟨(_, _, _, _, _, _, _), by cbv, ?_, ?_⟩)) | ((with_reducible refine ⟨(_, _, _, _, _, _), by cbv, ?_, ?_⟩)) | ((with_reducible refine ⟨(_, _, _, _, _), by cbv, ?_, ?_⟩)) | ((with_reducible refine ⟨(_, _, _, _), by cbv, ?_, ?_⟩)) | ((with_reducible refine ⟨(_, _, _), by cbv, ?_, ?_⟩)) | ((with_reducible refine ⟨(_, _), by cbv, ?_, ?_⟩)) | ((with_reducible refine ⟨_, by cbv, ?_, ?_⟩)) | (with_reducible apply_assumption -symm -exfalso only [*]))
  all_goals ((try subst y_iC))
  all_goals (try (repeat' first | with_reducible exact obl0 | with_reducible refine obl1 ?_ ?_))
  all_goals (try first | with_reducible exact True.intro | (refine ob_pc hj ?_; (try rw [hj]); first | exact c_Mul (b := IntKind.u64.wrap n) rfl (by rw [w1]; omega) (by rw [w1]; omega)) | (refine ob_pcn hj ?_; (try rw [hj]); first | exact c_Mul (b := IntKind.u64.wrap n) rfl (by rw [w1]; omega) (by rw [w1]; omega)) | ((first | refine ob_le hj ?_ | refine ob_lei hj ?_ | refine ob_inb hj ?_ | refine ob_pos hj ?_ | refine ob_ne0 hj ?_ | refine ob_eqb hj ?_); (first | rfl | first | omega | (simp only [hj, std]; split <;> omega) | (simp (disch := omega) only [hj, std, cmpI, cmpB, satB, add64, sub64, ite0, pl0, pl2, pl3, sb0, if_true, if_false, eq_self, w1, w2, w3] <;> omega) | (simp (disch := omega) [hj, std, cmpI, cmpB, satB, add64, sub64, ite0, pl0, pl2, pl3, sb0, if_true, if_false, eq_self, w1, w2, w3] <;> omega))) | (skip))
  refine aw_lpj hj [(7, .own intT), (8, .keep)] [] (fun (⟨k, N, cs⟩ : Int × Nat × (List C)) => stOf 48 [(7, .one (.view 7 0)), (8, .one (.c (vI k)))] [(7, .loose [.own intT N cs])]) (fun (⟨k, N, cs⟩ : Int × Nat × (List C)) => n.toNat - k.toNat) (fun (⟨k, N, cs⟩ : Int × Nat × (List C)) => 0 ≤ k ∧ k ≤ n ∧ N = n.toNat ∧ (0 < k ∨ n = 0) ∧ ∃ L : List Int, cs = iC L ∧ L.length = n.toNat ∧ ∀ a : Nat, (a : Int) < k → iAt L a = c) ((j.imin (j.ofNat (j.toNat (j.wrap .i64 (j.wrap .u64 n)))) (j.ofNat 1), j.toNat (j.wrap .i64 (j.wrap .u64 n)), j.set (j.rep (j.toNat (j.wrap .i64 (j.wrap .u64 n))) [.val (.int .i64 0)]) 0 (j.ext [.val (.int .i64 c)] 0 (j.toNat (j.imin (j.ofNat (j.toNat (j.wrap .i64 (j.wrap .u64 n)))) (j.ofNat 1)))))) (by generalize @iC = x_iC; cbv) ?_ (fun ⟨k, N, cs⟩ hI => ?_)
  · obtain ⟨a1, a2, a3, L, a4, a5, a6⟩ := rep_init c (IntKind.i64.wrap (IntKind.u64.wrap n)).toNat
    have hN : (IntKind.i64.wrap (IntKind.u64.wrap n)).toNat = n.toNat := by rw [w1, w2]
    rw [hj]
    exact ⟨a1, Int.le_trans a2 (by rw [hN]; omega), hN, a3.imp id fun e => by rw [hN] at e; omega, L, a4, a5.trans hN, a6⟩
  obtain ⟨k1, k2, hN, k3, L, rfl, l1, l2⟩ := hI
  have nL := nI_eq L
  generalize y_iC : @iC = x_iC at *
  (repeat' first | ((first | with_reducible refine tr_cut (fun h => ?_) (fun h => ?_) | refine aw_condj (by cbv) (fun h => ?_) (fun h => ?_)) <;> (try simp (disch := omega) only [hj, std, cmpI, cmpB, satB, Bool.not_eq_true, Bool.not_eq_false, decide_eq_true_eq, decide_eq_false_iff_not, beq_iff_eq, bne_iff_ne, bne_eq_false_iff_eq, beq_eq_false_iff_ne, ne_eq, reduceCtorEq, not_true_eq_false, not_false_eq_true, pl0, if_true, cmpS_eq, cmpS_neq, Bool.not_eq_eq_eq_not, Bool.not_true, Bool.not_false, Bool.not_eq_true', add64, sub64] at h) <;> (try (exfalso; omega))) | (with_reducible refine tr_alt (fun h => ?_) ?_ <;> (try (exfalso; omega))) | (with_reducible refine tr_ob ?_ ?_) | (with_reducible refine tr_done ?_) | (refine aw_dr1 (id := 9) hj tok hm bookMu false [(0, false), (1, false), (2, false), (3, false), (4, false), (5, true), (6, true), (7, true), (8, true), (9, true)] (by kernel_rfl) (by cbv) ?_) | (refine aw_dr (id := 9) hj tok hm bookMu false [(0, false), (1, false), (2, false), (3, false), (4, false), (5, true), (6, true), (7, true), (8, true), (9, true)] (by kernel_rfl) (by cbv) ?_) | (refine aw_tr hj tok bookMu (by cbv) ?_) | (refine aw_seq fun K hK => ?_) | (refine aw_tr1 hj tok bookMu (by cbv) ?_) | (refine aw_skip ?_) | (refine aw_block ?_) | (refine aw_exit ?_) | (refine aw_ret ⟨.inr rfl, ret_okj hj (by cbv) ?_ ?_⟩) | (refine aw_ret ?_) | (with_reducible refine th_n ?_) | (with_reducible refine th_r ?_) | (with_reducible refine th_x ?_) | (with_reducible refine blk_n ?_) | (with_reducible refine blk_r ?_) | (with_reducible refine blk_x ?_) | (with_reducible refine blk_y rfl ?_) | (refine ⟨.inr rfl, ret_okj hj (by cbv) ?_ ?_⟩) | (refine ⟨.inl rfl, ret_okj hj (by cbv) ?_ ?_⟩) | ((with_reducible refine ⟨(_, _, _, _, _, _, _), by cbv, ?_, ?_⟩)) | ((with_reducible refine ⟨(_, _, _, _, _, _), by cbv, ?_, ?_⟩)) | ((with_reducible refine ⟨(_, _, _, _, _), by cbv, ?_, ?_⟩)) | ((with_reducible refine ⟨(_, _, _, _), by cbv, ?_, ?_⟩)) | ((with_reducible refine ⟨(_, _, _), by cbv, ?_, ?_⟩)) | ((with_reducible refine ⟨(_, _), by cbv, ?_, ?_⟩)) | ((with_reducible refine ⟨_, by cbv, ?_, ?_⟩)) | (with_reducible apply_assumption -symm -exfalso only [*]))
  all_goals ((try subst y_iC))
  all_goals (try (repeat' first | with_reducible exact obl0 | with_reducible refine obl1 ?_ ?_))
  all_goals (try first | with_reducible exact True.intro | ((first | refine ob_le hj ?_ | refine ob_lei hj ?_ | refine ob_inb hj ?_ | refine ob_pos hj ?_ | refine ob_ne0 hj ?_ | refine ob_eqb hj ?_); (first | rfl | first | omega | (simp only [hj, std]; split <;> omega) | (simp (disch := omega) only [hj, std, cmpI, cmpB, satB, add64, sub64, ite0, pl0, pl2, pl3, sb0, if_true, if_false, eq_self, iC_len] <;> omega) | (simp (disch := omega) [hj, std, cmpI, cmpB, satB, add64, sub64, ite0, pl0, pl2, pl3, sb0, if_true, if_false, eq_self, iC_len] <;> omega))) | ((refine (ret1_c (own_eq hN ?_)).symm; rw [rep_end l1 (fun a h => l2 a (by omega))])))
  all_goals (have hkN : k < N := by assumption)
  all_goals (have ht : (if ((k.toNat : Nat) : Int) < ((N - k.toNat : Nat) : Int) then ((k.toNat : Nat) : Int) else ((N - k.toNat : Nat) : Int)) = ((min (N - k.toNat) k.toNat : Nat) : Int) := by split <;> omega)
  all_goals (have e9 : arithI .add .i64 k ((min (N - k.toNat) k.toNat : Nat) : Int) = k + ((min (N - k.toNat) k.toNat : Nat) : Int) := add64 (by omega) (by omega))
  · obtain ⟨L', r1, r2, r3⟩ := rep_step (c := c) (N := N) (k := k.toNat) (t := min (N - k.toNat) k.toNat) (by omega) (by omega) (by omega) (fun a h => l2 a (by omega))
    simp only [hj, std, sb0, ht, e9, Int.toNat_natCast]
    exact ⟨by omega, by omega, hN, .inl (by omega), L', r1, by omega, fun a h => r3 a (by omega)⟩
  · simp only [hj, std, sb0, ht, e9]
    omega
end Go.Proofs.Ytdmdcmhgfgookaa.A
