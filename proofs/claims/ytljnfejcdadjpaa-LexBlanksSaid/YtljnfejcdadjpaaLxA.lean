import Derived.Test.YtljnfejcdadjpaaBas
import Derived.Test.YtljnfejcdadjpaaTt
import Derived.Test.YtljnfejcdadjpaaAm29
/- Lexing, the plain law: what both texts compute. No program in sight. -/
set_option linter.unusedSimpArgs false
set_option linter.unusedVariables false
set_option maxRecDepth 100000
set_option maxHeartbeats 4000000
namespace Go.Proofs.Ytljnfejcdadjpaa
open Go

/-- the first place from i on where p fails -/
def span (p : Nat → Bool) (s : ByteArray) (i : Nat) : Nat :=
  if h : i < s.size ∧ p (bt s i) = true then span p s (i + 1) else i
termination_by s.size - i
theorem span_stop {p : Nat → Bool} {s : ByteArray} {i : Nat} (h : ¬ (i < s.size ∧ p (bt s i) = true)) : span p s i = i := by
  rw [span, dif_neg h]
theorem span_step {p : Nat → Bool} {s : ByteArray} {i : Nat} (h : i < s.size) (hp : p (bt s i) = true) : span p s i = span p s (i + 1) := by
  rw [span, dif_pos ⟨h, hp⟩]
theorem span_ge (p : Nat → Bool) (s : ByteArray) (i : Nat) : i ≤ span p s i := by
  rw [span]; split
  · rename_i h
    have := span_ge p s (i + 1); omega
  · exact Nat.le_refl _
termination_by s.size - i
theorem span_le (p : Nat → Bool) (s : ByteArray) (i : Nat) (h : i ≤ s.size) : span p s i ≤ s.size := by
  rw [span]; split
  · rename_i hh
    exact span_le p s (i + 1) (by omega)
  · exact h
termination_by s.size - i
theorem span_gt {p : Nat → Bool} {s : ByteArray} {i : Nat} (h : i < s.size) (hp : p (bt s i) = true) : i < span p s i := by
  rw [span_step h hp]; have := span_ge p s (i + 1); omega

def isLetN (c : Nat) : Bool := (decide (97 ≤ c) && decide (c ≤ 122)) || (decide (65 ≤ c) && decide (c ≤ 90))
def isMoreN (c : Nat) : Bool := isLetN c || (decide (48 ≤ c) && decide (c ≤ 57)) || decide (c = 95)
def isSpelN (c : Nat) : Bool := decide (32 ≤ c) && decide (c ≤ 126) && !decide (c = 39) && !decide (c = 92)
def isBlankN (c : Nat) : Bool := decide (c = 32) || decide (c = 9) || decide (c = 10) || decide (c = 13)
/-- behind separators and comments -/
def skip (s : ByteArray) (i : Nat) : Nat :=
  if h : i < s.size then
    if isBlankN (bt s i) = true then skip s (i + 1)
    else if hc : bt s i = 35 then
      have : i < span (fun c => !decide (c = 10)) s i := span_gt h (by simp [hc])
      have : span (fun c => !decide (c = 10)) s i ≤ s.size := span_le _ s i (by omega)
      skip s (span (fun c => !decide (c = 10)) s i)
    else i
  else i
termination_by s.size - i
theorem skip_ge (s : ByteArray) (i : Nat) : i ≤ skip s i := by
  rw [skip]; split
  · rename_i h
    split
    · have := skip_ge s (i + 1); omega
    · rename_i hb
      split
      · rename_i hc
        have h1 : i < span (fun c => !decide (c = 10)) s i := span_gt h (by simp [hc])
        have h2 : span (fun c => !decide (c = 10)) s i ≤ s.size := span_le _ s i (by omega)
        have := skip_ge s (span (fun c => !decide (c = 10)) s i)
        show i ≤ skip s (span (fun c => !decide (c = 10)) s i)
        omega
      · exact Nat.le_refl _
  · exact Nat.le_refl _
termination_by s.size - i
/-- kind, text, where -/
abbrev Tk := Int × ByteArray × Int
def tk0 : Tk := (0, ByteArray.empty, 0)
/-- the token at i: it, where it ends, what is wrong -/
def tokAt (s : ByteArray) (i : Nat) : Tk × Nat × Int :=
  let c := bt s i
  if c = 58 then ((3, ⟨#[58]⟩, i), i + 1, 0)
  else if c = 124 then ((4, ⟨#[124]⟩, i), i + 1, 0)
  else if c = 59 then ((5, ⟨#[59]⟩, i), i + 1, 0)
  else if isLetN c = true then
    let e := span isMoreN s i
    if 32 < e - i then (tk0, i, 19) else ((1, s.extract i e, i), e, 0)
  else if c = 39 then
    let e := span isSpelN s (i + 1)
    if s.size ≤ e ∨ bt s e ≠ 39 ∨ e = i + 1 then (tk0, i, 13)
    else if 32 < e - i - 1 then (tk0, i, 19) else ((2, s.extract (i + 1) e, i), e + 1, 0)
  else (tk0, i, 13)
theorem tokAt_end {s : ByteArray} {i : Nat} (hi : i < s.size) (h : (tokAt s i).2.2 = 0) : i < (tokAt s i).2.1 ∧ (tokAt s i).2.1 ≤ s.size := by
  unfold tokAt at *
  dsimp only at *
  by_cases h1 : bt s i = 58
  · rw [if_pos h1] at *; exact ⟨Nat.lt_succ_self i, hi⟩
  rw [if_neg h1] at *
  by_cases h2 : bt s i = 124
  · rw [if_pos h2] at *; exact ⟨Nat.lt_succ_self i, hi⟩
  rw [if_neg h2] at *
  by_cases h3 : bt s i = 59
  · rw [if_pos h3] at *; exact ⟨Nat.lt_succ_self i, hi⟩
  rw [if_neg h3] at *
  by_cases h4 : isLetN (bt s i) = true
  · rw [if_pos h4] at *
    have g1 : i < span isMoreN s i := span_gt hi (by simp [isMoreN, h4])
    have g2 := span_le isMoreN s i (by omega)
    split at h
    · simp at h
    · rename_i h5; rw [if_neg h5]; exact ⟨g1, g2⟩
  rw [if_neg h4] at *
  by_cases h5 : bt s i = 39
  · rw [if_pos h5] at *
    have g1 := span_ge isSpelN s (i + 1)
    split at h
    · simp at h
    · rename_i h6
      split at h
      · simp at h
      · rename_i h7
        rw [if_neg h6, if_neg h7]
        simp only [not_or] at h6
        exact ⟨by show i < _ + 1; omega, by show _ + 1 ≤ _; omega⟩
  rw [if_neg h5] at h
  simp at h
/-- all tokens from i on: them, or where and what is wrong -/
def lexGo (s : ByteArray) (i : Nat) : List Tk × Int × Int :=
  if h : skip s i < s.size then
    if he : (tokAt s (skip s i)).2.2 = 0 then
      let r := lexGo s (tokAt s (skip s i)).2.1
      if r.2.2 = 0 then ((tokAt s (skip s i)).1 :: r.1, 0, 0) else r
    else ([], (skip s i : Int), (tokAt s (skip s i)).2.2)
  else ([], 0, 0)
termination_by s.size - i
decreasing_by
  have h1 := tokAt_end h he
  have h2 := skip_ge s i
  omega
end Go.Proofs.Ytljnfejcdadjpaa

/- Lexing: what the functions of the reference, layer 12, give. -/
set_option linter.unusedSimpArgs false
set_option linter.unusedVariables false
set_option maxRecDepth 100000
set_option maxHeartbeats 4000000
namespace Go.Proofs.Ytljnfejcdadjpaa.A
open Go
def isLetI (c : Int) : Bool := decide ((97 ≤ c ∧ c ≤ 122) ∨ (65 ≤ c ∧ c ≤ 90))
def isMoreI (c : Int) : Bool := isLetI c || decide ((48 ≤ c ∧ c ≤ 57) ∨ c = 95)
theorem ret1_b {a b : Bool} (h : a = b) : ret1 (.st (vB a)) = ⟨false, [(false, [.st (.val (.bool b))])]⟩ := by rw [h]; rfl

def book0 : Book := fun _ _ => none
theorem e_letter12 : Enters Try.prog 25 := enters Try.func25 (by kernel_rfl) (by kernel_rfl)
theorem pc_letter12 (n : Int) : PC Try.prog T 25 [.v false [vU n]] (ret1 (.st (vB (isLetI n)))) [] := by
  refine pc_of tok Try.func25 rfl (by rfl) ?_
  obtain ⟨j, hj⟩ : ∃ j : J, j = std Try.prog T := ⟨_, rfl⟩
  generalize y_isLetI : @isLetI = x_isLetI at *
  (repeat' first | (with_reducible refine tr_cut (fun h => ?_) (fun h => ?_) <;> (try simp (disch := omega) only [hj, std, cmpI, cmpB, satB, Bool.not_eq_true, Bool.not_eq_false, decide_eq_true_eq, decide_eq_false_iff_not, beq_iff_eq, bne_iff_ne, bne_eq_false_iff_eq, beq_eq_false_iff_ne, ne_eq, reduceCtorEq, not_true_eq_false, not_false_eq_true, add64, sub64] at h) <;> (try (exfalso; omega))) | (with_reducible refine tr_alt (fun h => ?_) ?_ <;> (try (exfalso; omega))) | (with_reducible refine tr_ob ?_ ?_) | (with_reducible refine tr_done ?_) | (refine aw_tr hj tok book0 (by cbv) ?_) | (refine aw_seq fun K hK => ?_) | (refine aw_tr1 hj tok book0 (by cbv) ?_) | (refine aw_condj (by cbv) (fun h => ?_) (fun h => ?_) <;> (try simp (disch := omega) only [hj, std, cmpI, cmpB, satB, Bool.not_eq_true, Bool.not_eq_false, decide_eq_true_eq, decide_eq_false_iff_not, beq_iff_eq, bne_iff_ne, bne_eq_false_iff_eq, beq_eq_false_iff_ne, ne_eq, reduceCtorEq, not_true_eq_false, not_false_eq_true, add64, sub64] at h) <;> (try (exfalso; omega))) | (refine aw_skip ?_) | (refine aw_block ?_) | (refine aw_exit ?_) | (refine aw_ret ⟨.inr rfl, ret_okj hj (by cbv) ?_ ?_⟩) | (refine aw_ret ?_) | (with_reducible refine th_n ?_) | (with_reducible refine th_r ?_) | (with_reducible refine th_x ?_) | (with_reducible refine blk_n ?_) | (with_reducible refine blk_r ?_) | (with_reducible refine blk_x ?_) | (with_reducible refine blk_y rfl ?_) | (refine ⟨.inr rfl, ret_okj hj (by cbv) ?_ ?_⟩) | (refine ⟨.inl rfl, ret_okj hj (by cbv) ?_ ?_⟩) | ((with_reducible refine ⟨(_, _, _, _, _, _, _), by cbv, ?_, ?_⟩)) | ((with_reducible refine ⟨(_, _, _, _, _, _), by cbv, ?_, ?_⟩)) | ((with_reducible refine ⟨(_, _, _, _, _), by cbv, ?_, ?_⟩)) | ((with_reducible refine ⟨(_, _, _, _), by cbv, ?_, ?_⟩)) | ((with_reducible refine ⟨(_, _, _), by cbv, ?_, ?_⟩)) | ((with_reducible refine ⟨(_, _), by cbv, ?_, ?_⟩)) | ((with_reducible refine ⟨_, by cbv, ?_, ?_⟩)) | (with_reducible apply_assumption -symm -exfalso only [*]))
  all_goals ((try subst y_isLetI))
  all_goals first | exact obl0 | ((repeat (refine obl1 (by first | (simp (disch := omega) only [hj, std, cmpI, cmpB, satB, add64, sub64, isLetI] <;> omega) | (simp (disch := omega) [hj, std, cmpI, cmpB, satB, add64, sub64, isLetI] <;> omega) | (rw [Bool.eq_iff_iff]; simp (disch := omega) [hj, std, cmpI, cmpB, satB, add64, sub64, isLetI] <;> omega) | omega) ?_)); exact obl0) | (refine ret1_b ?_ <;> first | (simp (disch := omega) only [hj, std, cmpI, cmpB, satB, add64, sub64, isLetI] <;> omega) | (simp (disch := omega) [hj, std, cmpI, cmpB, satB, add64, sub64, isLetI] <;> omega) | (rw [Bool.eq_iff_iff]; simp (disch := omega) [hj, std, cmpI, cmpB, satB, add64, sub64, isLetI] <;> omega) | omega)
theorem c_letter12 (n : Int) : (std Try.prog T).pc 25 [.v false [vU n]] (ret1 (.st (vB (isLetI n)))) [] := ⟨e_letter12, pc_letter12 n⟩
def book1 (x_isLetI : Int → Bool) (x_isMoreI : Int → Bool) : Book := fun f xs => match f, xs with
  | 25, [.v false [.val (.int .u8 n)]] => some (ret1 (.st (vB (x_isLetI n))))
  | 28, [.v false [.val (.int .u8 n)]] => some (ret1 (.st (vB (x_isLetI n))))
  | 26, [.v false [.val (.int .u8 n)]] => some (ret1 (.st (vB (x_isMoreI n))))
  | 30, [.v false [.val (.int .u8 n)]] => some (ret1 (.st (vB (x_isMoreI n))))
  | _, _ => none
theorem pc_more12 (n : Int) : PC Try.prog T 26 [.v false [vU n]] (ret1 (.st (vB (isMoreI n)))) [] := by
  refine pc_of tok Try.func26 rfl (by rfl) ?_
  obtain ⟨j, hj⟩ : ∃ j : J, j = std Try.prog T := ⟨_, rfl⟩
  generalize y_isLetI : @isLetI = x_isLetI at *
  generalize y_isMoreI : @isMoreI = x_isMoreI at *
  (repeat' first | (with_reducible refine tr_cut (fun h => ?_) (fun h => ?_) <;> (try simp (disch := omega) only [hj, std, cmpI, cmpB, satB, Bool.not_eq_true, Bool.not_eq_false, decide_eq_true_eq, decide_eq_false_iff_not, beq_iff_eq, bne_iff_ne, bne_eq_false_iff_eq, beq_eq_false_iff_ne, ne_eq, reduceCtorEq, not_true_eq_false, not_false_eq_true, add64, sub64] at h) <;> (try (exfalso; omega))) | (with_reducible refine tr_alt (fun h => ?_) ?_ <;> (try (exfalso; omega))) | (with_reducible refine tr_ob ?_ ?_) | (with_reducible refine tr_done ?_) | (refine aw_tr hj tok (book1 x_isLetI x_isMoreI) (by cbv) ?_) | (refine aw_seq fun K hK => ?_) | (refine aw_tr1 hj tok (book1 x_isLetI x_isMoreI) (by cbv) ?_) | (refine aw_condj (by cbv) (fun h => ?_) (fun h => ?_) <;> (try simp (disch := omega) only [hj, std, cmpI, cmpB, satB, Bool.not_eq_true, Bool.not_eq_false, decide_eq_true_eq, decide_eq_false_iff_not, beq_iff_eq, bne_iff_ne, bne_eq_false_iff_eq, beq_eq_false_iff_ne, ne_eq, reduceCtorEq, not_true_eq_false, not_false_eq_true, add64, sub64] at h) <;> (try (exfalso; omega))) | (refine aw_skip ?_) | (refine aw_block ?_) | (refine aw_exit ?_) | (refine aw_ret ⟨.inr rfl, ret_okj hj (by cbv) ?_ ?_⟩) | (refine aw_ret ?_) | (with_reducible refine th_n ?_) | (with_reducible refine th_r ?_) | (with_reducible refine th_x ?_) | (with_reducible refine blk_n ?_) | (with_reducible refine blk_r ?_) | (with_reducible refine blk_x ?_) | (with_reducible refine blk_y rfl ?_) | (refine ⟨.inr rfl, ret_okj hj (by cbv) ?_ ?_⟩) | (refine ⟨.inl rfl, ret_okj hj (by cbv) ?_ ?_⟩) | ((with_reducible refine ⟨(_, _, _, _, _, _, _), by cbv, ?_, ?_⟩)) | ((with_reducible refine ⟨(_, _, _, _, _, _), by cbv, ?_, ?_⟩)) | ((with_reducible refine ⟨(_, _, _, _, _), by cbv, ?_, ?_⟩)) | ((with_reducible refine ⟨(_, _, _, _), by cbv, ?_, ?_⟩)) | ((with_reducible refine ⟨(_, _, _), by cbv, ?_, ?_⟩)) | ((with_reducible refine ⟨(_, _), by cbv, ?_, ?_⟩)) | ((with_reducible refine ⟨_, by cbv, ?_, ?_⟩)) | (with_reducible apply_assumption -symm -exfalso only [*]))
  all_goals ((try subst y_isLetI); (try subst y_isMoreI))
  all_goals first | exact obl0 | ((repeat (refine obl1 (by first | (rw [hj]; exact c_letter12 _) | (simp (disch := omega) only [hj, std, cmpI, cmpB, satB, add64, sub64, isMoreI, *] <;> omega) | (simp (disch := omega) [hj, std, cmpI, cmpB, satB, add64, sub64, isMoreI, *] <;> omega) | (rw [Bool.eq_iff_iff]; simp (disch := omega) [hj, std, cmpI, cmpB, satB, add64, sub64, isMoreI, *] <;> omega) | omega) ?_)); exact obl0) | (refine ret1_b ?_ <;> first | (rw [hj]; exact c_letter12 _) | (simp (disch := omega) only [hj, std, cmpI, cmpB, satB, add64, sub64, isMoreI, *] <;> omega) | (simp (disch := omega) [hj, std, cmpI, cmpB, satB, add64, sub64, isMoreI, *] <;> omega) | (rw [Bool.eq_iff_iff]; simp (disch := omega) [hj, std, cmpI, cmpB, satB, add64, sub64, isMoreI, *] <;> omega) | omega)
end Go.Proofs.Ytljnfejcdadjpaa.A

/- Lexing: run. -/
set_option linter.unusedSimpArgs false
set_option linter.unusedVariables false
set_option maxRecDepth 100000
set_option maxHeartbeats 4000000
namespace Go.Proofs.Ytljnfejcdadjpaa.A
open Go
theorem ret1_i {a b : Int} (h : a = b) : ret1 (.st (vI a)) = ⟨false, [(false, [.st (.val (.int .i64 b))])]⟩ := by rw [h]; rfl
def spanI (p : Int → Bool) (s : ByteArray) (i : Int) : Int := (span (fun c => p (c : Int)) s i.toNat : Nat)
theorem spanI_step {p : Int → Bool} {s : ByteArray} {i : Int} (h0 : 0 ≤ i) (h : i < s.size) (hp : p (bt s i.toNat : Int) = true) : spanI p s (i + 1) = spanI p s i := by
  unfold spanI
  rw [span_step (i := i.toNat) (by omega) hp, show (i + 1).toNat = i.toNat + 1 by omega]
theorem spanI_end {p : Int → Bool} {s : ByteArray} {i : Int} (h0 : 0 ≤ i) (h : ¬ i < s.size) : spanI p s i = i := by
  unfold spanI
  rw [span_stop (i := i.toNat) (by omega)]; omega
theorem spanI_stop {p : Int → Bool} {s : ByteArray} {i : Int} (h0 : 0 ≤ i) (hp : p (bt s i.toNat : Int) = false) : spanI p s i = i := by
  unfold spanI
  rw [span_stop (i := i.toNat) (by simp [hp])]; omega
def bookR (p : Int → Bool) : Book := fun _ xs => match xs with | [.v false [.val (.int .u8 n)]] => some (ret1 (.st (vB (p n)))) | _ => none
theorem pc_run (s : ByteArray) (f : FuncId) (p : Int → Bool) (hs : s.size < 4611686018427387904) (hp : ∀ n, (std Try.prog T).pc f [.v false [vU n]] (ret1 (.st (vB (p n)))) []) :
    PC Try.prog T 29 [.v false [vS s], .fn f] (ret1 (.st (vI (spanI p s 0)))) [] := by
  refine pc_of tok Try.func29 rfl (by rfl) ?_
  obtain ⟨j, hj⟩ : ∃ j : J, j = std Try.prog T := ⟨_, rfl⟩
  generalize y_spanI : @spanI = x_spanI at *
  (repeat' first | (with_reducible refine tr_cut (fun h => ?_) (fun h => ?_) <;> (try simp (disch := omega) only [hj, std, cmpI, cmpB, satB, Bool.not_eq_true, Bool.not_eq_false, decide_eq_true_eq, decide_eq_false_iff_not, beq_iff_eq, bne_iff_ne, bne_eq_false_iff_eq, beq_eq_false_iff_ne, ne_eq, reduceCtorEq, not_true_eq_false, not_false_eq_true, add64, sub64] at h) <;> (try (exfalso; omega))) | (with_reducible refine tr_alt (fun h => ?_) ?_ <;> (try (exfalso; omega))) | (with_reducible refine tr_ob ?_ ?_) | (with_reducible refine tr_done ?_) | (refine aw_tr hj tok (bookR p) (by cbv) ?_) | (refine aw_seq fun K hK => ?_) | (refine aw_tr1 hj tok (bookR p) (by cbv) ?_) | (refine aw_condj (by cbv) (fun h => ?_) (fun h => ?_) <;> (try simp (disch := omega) only [hj, std, cmpI, cmpB, satB, Bool.not_eq_true, Bool.not_eq_false, decide_eq_true_eq, decide_eq_false_iff_not, beq_iff_eq, bne_iff_ne, bne_eq_false_iff_eq, beq_eq_false_iff_ne, ne_eq, reduceCtorEq, not_true_eq_false, not_false_eq_true, add64, sub64] at h) <;> (try (exfalso; omega))) | (refine aw_skip ?_) | (refine aw_block ?_) | (refine aw_exit ?_) | (refine aw_ret ⟨.inr rfl, ret_okj hj (by cbv) ?_ ?_⟩) | (refine aw_ret ?_) | (with_reducible refine th_n ?_) | (with_reducible refine th_r ?_) | (with_reducible refine th_x ?_) | (with_reducible refine blk_n ?_) | (with_reducible refine blk_r ?_) | (with_reducible refine blk_x ?_) | (with_reducible refine blk_y rfl ?_) | (refine ⟨.inr rfl, ret_okj hj (by cbv) ?_ ?_⟩) | (refine ⟨.inl rfl, ret_okj hj (by cbv) ?_ ?_⟩) | ((with_reducible refine ⟨(_, _, _, _, _, _, _), by cbv, ?_, ?_⟩)) | ((with_reducible refine ⟨(_, _, _, _, _, _), by cbv, ?_, ?_⟩)) | ((with_reducible refine ⟨(_, _, _, _, _), by cbv, ?_, ?_⟩)) | ((with_reducible refine ⟨(_, _, _, _), by cbv, ?_, ?_⟩)) | ((with_reducible refine ⟨(_, _, _), by cbv, ?_, ?_⟩)) | ((with_reducible refine ⟨(_, _), by cbv, ?_, ?_⟩)) | ((with_reducible refine ⟨_, by cbv, ?_, ?_⟩)) | (with_reducible apply_assumption -symm -exfalso only [*]))
  all_goals ((try subst y_spanI))
  refine aw_lpj hj [(0, .keep), (1, .keep), (5, .keep)] [] (fun i : Int => stOf 20 [(0, .one (.c (vS s))), (1, .one (.fn f [])), (5, .one (.c (vI i)))] []) (fun i => s.size - i.toNat) (fun i => 0 ≤ i ∧ i ≤ s.size ∧ spanI p s i = spanI p s 0) 0 (by generalize @spanI = x_spanI; cbv) ⟨by omega, by omega, rfl⟩ fun i ⟨i1, i2, i3⟩ => ?_
  generalize y_spanI : @spanI = x_spanI at *
  (repeat' first | (with_reducible refine tr_cut (fun h => ?_) (fun h => ?_) <;> (try simp (disch := omega) only [hj, std, cmpI, cmpB, satB, Bool.not_eq_true, Bool.not_eq_false, decide_eq_true_eq, decide_eq_false_iff_not, beq_iff_eq, bne_iff_ne, bne_eq_false_iff_eq, beq_eq_false_iff_ne, ne_eq, reduceCtorEq, not_true_eq_false, not_false_eq_true, add64, sub64] at h) <;> (try (exfalso; omega))) | (with_reducible refine tr_alt (fun h => ?_) ?_ <;> (try (exfalso; omega))) | (with_reducible refine tr_ob ?_ ?_) | (with_reducible refine tr_done ?_) | (refine aw_tr hj tok (bookR p) (by cbv) ?_) | (refine aw_seq fun K hK => ?_) | (refine aw_tr1 hj tok (bookR p) (by cbv) ?_) | (refine aw_condj (by cbv) (fun h => ?_) (fun h => ?_) <;> (try simp (disch := omega) only [hj, std, cmpI, cmpB, satB, Bool.not_eq_true, Bool.not_eq_false, decide_eq_true_eq, decide_eq_false_iff_not, beq_iff_eq, bne_iff_ne, bne_eq_false_iff_eq, beq_eq_false_iff_ne, ne_eq, reduceCtorEq, not_true_eq_false, not_false_eq_true, add64, sub64] at h) <;> (try (exfalso; omega))) | (refine aw_skip ?_) | (refine aw_block ?_) | (refine aw_exit ?_) | (refine aw_ret ⟨.inr rfl, ret_okj hj (by cbv) ?_ ?_⟩) | (refine aw_ret ?_) | (with_reducible refine th_n ?_) | (with_reducible refine th_r ?_) | (with_reducible refine th_x ?_) | (with_reducible refine blk_n ?_) | (with_reducible refine blk_r ?_) | (with_reducible refine blk_x ?_) | (with_reducible refine blk_y rfl ?_) | (refine ⟨.inr rfl, ret_okj hj (by cbv) ?_ ?_⟩) | (refine ⟨.inl rfl, ret_okj hj (by cbv) ?_ ?_⟩) | ((with_reducible refine ⟨(_, _, _, _, _, _, _), by cbv, ?_, ?_⟩)) | ((with_reducible refine ⟨(_, _, _, _, _, _), by cbv, ?_, ?_⟩)) | ((with_reducible refine ⟨(_, _, _, _, _), by cbv, ?_, ?_⟩)) | ((with_reducible refine ⟨(_, _, _, _), by cbv, ?_, ?_⟩)) | ((with_reducible refine ⟨(_, _, _), by cbv, ?_, ?_⟩)) | ((with_reducible refine ⟨(_, _), by cbv, ?_, ?_⟩)) | ((with_reducible refine ⟨_, by cbv, ?_, ?_⟩)) | (with_reducible apply_assumption -symm -exfalso only [*]))
  all_goals ((try subst y_spanI))
  all_goals first | exact obl0 | ((repeat (refine obl1 (by first | (rw [← i3]; exact (spanI_stop i1 ‹_›).symm ▸ rfl) | (rw [← i3]; exact spanI_stop i1 ‹_›) | (rw [← i3]; exact spanI_end i1 ‹_›) | (rw [hj]; exact hp _) | (rw [hj]; simp only [std]; rw [add64 (by omega) (by omega), spanI_step i1 ‹_› ‹_›]; exact i3) | (simp (disch := omega) only [hj, std, cmpI, cmpB, satB, add64, sub64] <;> omega) | (simp (disch := omega) [hj, std, cmpI, cmpB, satB, add64, sub64] <;> omega) | (rw [Bool.eq_iff_iff]; simp (disch := omega) [hj, std, cmpI, cmpB, satB, add64, sub64] <;> omega) | omega) ?_)); exact obl0) | (refine ret1_i ?_ <;> first | (rw [← i3]; exact (spanI_stop i1 ‹_›).symm ▸ rfl) | (rw [← i3]; exact spanI_stop i1 ‹_›) | (rw [← i3]; exact spanI_end i1 ‹_›) | (rw [hj]; exact hp _) | (rw [hj]; simp only [std]; rw [add64 (by omega) (by omega), spanI_step i1 ‹_› ‹_›]; exact i3) | (simp (disch := omega) only [hj, std, cmpI, cmpB, satB, add64, sub64] <;> omega) | (simp (disch := omega) [hj, std, cmpI, cmpB, satB, add64, sub64] <;> omega) | (rw [Bool.eq_iff_iff]; simp (disch := omega) [hj, std, cmpI, cmpB, satB, add64, sub64] <;> omega) | omega) | (and_intros <;> first | (rw [← i3]; exact (spanI_stop i1 ‹_›).symm ▸ rfl) | (rw [← i3]; exact spanI_stop i1 ‹_›) | (rw [← i3]; exact spanI_end i1 ‹_›) | (rw [hj]; exact hp _) | (rw [hj]; simp only [std]; rw [add64 (by omega) (by omega), spanI_step i1 ‹_› ‹_›]; exact i3) | (simp (disch := omega) only [hj, std, cmpI, cmpB, satB, add64, sub64] <;> omega) | (simp (disch := omega) [hj, std, cmpI, cmpB, satB, add64, sub64] <;> omega) | (rw [Bool.eq_iff_iff]; simp (disch := omega) [hj, std, cmpI, cmpB, satB, add64, sub64] <;> omega) | omega) | (refine ret1_b ?_ <;> first | (rw [← i3]; exact (spanI_stop i1 ‹_›).symm ▸ rfl) | (rw [← i3]; exact spanI_stop i1 ‹_›) | (rw [← i3]; exact spanI_end i1 ‹_›) | (rw [hj]; exact hp _) | (rw [hj]; simp only [std]; rw [add64 (by omega) (by omega), spanI_step i1 ‹_› ‹_›]; exact i3) | (simp (disch := omega) only [hj, std, cmpI, cmpB, satB, add64, sub64] <;> omega) | (simp (disch := omega) [hj, std, cmpI, cmpB, satB, add64, sub64] <;> omega) | (rw [Bool.eq_iff_iff]; simp (disch := omega) [hj, std, cmpI, cmpB, satB, add64, sub64] <;> omega) | omega)
end Go.Proofs.Ytljnfejcdadjpaa.A

/- Lexing: letter, goes, spells, blank$1, blank of lex. -/
set_option linter.unusedSimpArgs false
set_option linter.unusedVariables false
set_option maxRecDepth 100000
set_option maxHeartbeats 4000000
namespace Go.Proofs.Ytljnfejcdadjpaa.A
open Go
def isSpelI (c : Int) : Bool := decide (32 ≤ c ∧ c ≤ 126 ∧ c ≠ 39 ∧ c ≠ 92)
def notNl (c : Int) : Bool := !decide (c = 10)
def pc (f : FuncId) (args : List Arg) (ret : RV) : Prop := (std Try.prog T).pc f args ret []
theorem c_letter (n : Int) : pc 28 [.v false [vU n]] (ret1 (.st (vB (isLetI n)))) := by
  refine ⟨enters Try.func28 (by kernel_rfl) (by kernel_rfl), pc_of tok Try.func28 rfl (by rfl) ?_⟩
  obtain ⟨j, hj⟩ : ∃ j : J, j = std Try.prog T := ⟨_, rfl⟩
  generalize y_isLetI : @isLetI = x_isLetI at *
  (repeat' first | (with_reducible refine tr_cut (fun h => ?_) (fun h => ?_) <;> (try simp (disch := omega) only [hj, std, cmpI, cmpB, satB, Bool.not_eq_true, Bool.not_eq_false, decide_eq_true_eq, decide_eq_false_iff_not, beq_iff_eq, bne_iff_ne, bne_eq_false_iff_eq, beq_eq_false_iff_ne, ne_eq, reduceCtorEq, not_true_eq_false, not_false_eq_true, add64, sub64] at h) <;> (try (exfalso; omega))) | (with_reducible refine tr_alt (fun h => ?_) ?_ <;> (try (exfalso; omega))) | (with_reducible refine tr_ob ?_ ?_) | (with_reducible refine tr_done ?_) | (refine aw_tr hj tok book0 (by cbv) ?_) | (refine aw_seq fun K hK => ?_) | (refine aw_tr1 hj tok book0 (by cbv) ?_) | (refine aw_condj (by cbv) (fun h => ?_) (fun h => ?_) <;> (try simp (disch := omega) only [hj, std, cmpI, cmpB, satB, Bool.not_eq_true, Bool.not_eq_false, decide_eq_true_eq, decide_eq_false_iff_not, beq_iff_eq, bne_iff_ne, bne_eq_false_iff_eq, beq_eq_false_iff_ne, ne_eq, reduceCtorEq, not_true_eq_false, not_false_eq_true, add64, sub64] at h) <;> (try (exfalso; omega))) | (refine aw_skip ?_) | (refine aw_block ?_) | (refine aw_exit ?_) | (refine aw_ret ⟨.inr rfl, ret_okj hj (by cbv) ?_ ?_⟩) | (refine aw_ret ?_) | (with_reducible refine th_n ?_) | (with_reducible refine th_r ?_) | (with_reducible refine th_x ?_) | (with_reducible refine blk_n ?_) | (with_reducible refine blk_r ?_) | (with_reducible refine blk_x ?_) | (with_reducible refine blk_y rfl ?_) | (refine ⟨.inr rfl, ret_okj hj (by cbv) ?_ ?_⟩) | (refine ⟨.inl rfl, ret_okj hj (by cbv) ?_ ?_⟩) | ((with_reducible refine ⟨(_, _, _, _, _, _, _), by cbv, ?_, ?_⟩)) | ((with_reducible refine ⟨(_, _, _, _, _, _), by cbv, ?_, ?_⟩)) | ((with_reducible refine ⟨(_, _, _, _, _), by cbv, ?_, ?_⟩)) | ((with_reducible refine ⟨(_, _, _, _), by cbv, ?_, ?_⟩)) | ((with_reducible refine ⟨(_, _, _), by cbv, ?_, ?_⟩)) | ((with_reducible refine ⟨(_, _), by cbv, ?_, ?_⟩)) | ((with_reducible refine ⟨_, by cbv, ?_, ?_⟩)) | (with_reducible apply_assumption -symm -exfalso only [*]))
  all_goals ((try subst y_isLetI))
  all_goals first | exact obl0 | ((repeat (refine obl1 (by first | (simp (disch := omega) only [hj, std, cmpI, cmpB, satB, add64, sub64, isLetI] <;> omega) | (simp (disch := omega) [hj, std, cmpI, cmpB, satB, add64, sub64, isLetI] <;> omega) | (rw [Bool.eq_iff_iff]; simp (disch := omega) [hj, std, cmpI, cmpB, satB, add64, sub64, isLetI] <;> omega) | omega) ?_)); exact obl0) | (refine ret1_b ?_ <;> first | (simp (disch := omega) only [hj, std, cmpI, cmpB, satB, add64, sub64, isLetI] <;> omega) | (simp (disch := omega) [hj, std, cmpI, cmpB, satB, add64, sub64, isLetI] <;> omega) | (rw [Bool.eq_iff_iff]; simp (disch := omega) [hj, std, cmpI, cmpB, satB, add64, sub64, isLetI] <;> omega) | omega)
theorem c_goes (n : Int) : pc 30 [.v false [vU n]] (ret1 (.st (vB (isMoreI n)))) := by
  refine ⟨enters Try.func30 (by kernel_rfl) (by kernel_rfl), pc_of tok Try.func30 rfl (by rfl) ?_⟩
  obtain ⟨j, hj⟩ : ∃ j : J, j = std Try.prog T := ⟨_, rfl⟩
  generalize y_isLetI : @isLetI = x_isLetI at *
  generalize y_isMoreI : @isMoreI = x_isMoreI at *
  (repeat' first | (with_reducible refine tr_cut (fun h => ?_) (fun h => ?_) <;> (try simp (disch := omega) only [hj, std, cmpI, cmpB, satB, Bool.not_eq_true, Bool.not_eq_false, decide_eq_true_eq, decide_eq_false_iff_not, beq_iff_eq, bne_iff_ne, bne_eq_false_iff_eq, beq_eq_false_iff_ne, ne_eq, reduceCtorEq, not_true_eq_false, not_false_eq_true, add64, sub64] at h) <;> (try (exfalso; omega))) | (with_reducible refine tr_alt (fun h => ?_) ?_ <;> (try (exfalso; omega))) | (with_reducible refine tr_ob ?_ ?_) | (with_reducible refine tr_done ?_) | (refine aw_tr hj tok (book1 x_isLetI x_isMoreI) (by cbv) ?_) | (refine aw_seq fun K hK => ?_) | (refine aw_tr1 hj tok (book1 x_isLetI x_isMoreI) (by cbv) ?_) | (refine aw_condj (by cbv) (fun h => ?_) (fun h => ?_) <;> (try simp (disch := omega) only [hj, std, cmpI, cmpB, satB, Bool.not_eq_true, Bool.not_eq_false, decide_eq_true_eq, decide_eq_false_iff_not, beq_iff_eq, bne_iff_ne, bne_eq_false_iff_eq, beq_eq_false_iff_ne, ne_eq, reduceCtorEq, not_true_eq_false, not_false_eq_true, add64, sub64] at h) <;> (try (exfalso; omega))) | (refine aw_skip ?_) | (refine aw_block ?_) | (refine aw_exit ?_) | (refine aw_ret ⟨.inr rfl, ret_okj hj (by cbv) ?_ ?_⟩) | (refine aw_ret ?_) | (with_reducible refine th_n ?_) | (with_reducible refine th_r ?_) | (with_reducible refine th_x ?_) | (with_reducible refine blk_n ?_) | (with_reducible refine blk_r ?_) | (with_reducible refine blk_x ?_) | (with_reducible refine blk_y rfl ?_) | (refine ⟨.inr rfl, ret_okj hj (by cbv) ?_ ?_⟩) | (refine ⟨.inl rfl, ret_okj hj (by cbv) ?_ ?_⟩) | ((with_reducible refine ⟨(_, _, _, _, _, _, _), by cbv, ?_, ?_⟩)) | ((with_reducible refine ⟨(_, _, _, _, _, _), by cbv, ?_, ?_⟩)) | ((with_reducible refine ⟨(_, _, _, _, _), by cbv, ?_, ?_⟩)) | ((with_reducible refine ⟨(_, _, _, _), by cbv, ?_, ?_⟩)) | ((with_reducible refine ⟨(_, _, _), by cbv, ?_, ?_⟩)) | ((with_reducible refine ⟨(_, _), by cbv, ?_, ?_⟩)) | ((with_reducible refine ⟨_, by cbv, ?_, ?_⟩)) | (with_reducible apply_assumption -symm -exfalso only [*]))
  all_goals ((try subst y_isLetI); (try subst y_isMoreI))
  all_goals first | exact obl0 | ((repeat (refine obl1 (by first | (rw [hj]; exact c_letter _) | (simp (disch := omega) only [hj, std, cmpI, cmpB, satB, add64, sub64, isMoreI, *] <;> omega) | (simp (disch := omega) [hj, std, cmpI, cmpB, satB, add64, sub64, isMoreI, *] <;> omega) | (rw [Bool.eq_iff_iff]; simp (disch := omega) [hj, std, cmpI, cmpB, satB, add64, sub64, isMoreI, *] <;> omega) | omega) ?_)); exact obl0) | (refine ret1_b ?_ <;> first | (rw [hj]; exact c_letter _) | (simp (disch := omega) only [hj, std, cmpI, cmpB, satB, add64, sub64, isMoreI, *] <;> omega) | (simp (disch := omega) [hj, std, cmpI, cmpB, satB, add64, sub64, isMoreI, *] <;> omega) | (rw [Bool.eq_iff_iff]; simp (disch := omega) [hj, std, cmpI, cmpB, satB, add64, sub64, isMoreI, *] <;> omega) | omega)
theorem c_spells (n : Int) : pc 31 [.v false [vU n]] (ret1 (.st (vB (isSpelI n)))) := by
  refine ⟨enters Try.func31 (by kernel_rfl) (by kernel_rfl), pc_of tok Try.func31 rfl (by rfl) ?_⟩
  obtain ⟨j, hj⟩ : ∃ j : J, j = std Try.prog T := ⟨_, rfl⟩
  generalize y_isSpelI : @isSpelI = x_isSpelI at *
  (repeat' first | (with_reducible refine tr_cut (fun h => ?_) (fun h => ?_) <;> (try simp (disch := omega) only [hj, std, cmpI, cmpB, satB, Bool.not_eq_true, Bool.not_eq_false, decide_eq_true_eq, decide_eq_false_iff_not, beq_iff_eq, bne_iff_ne, bne_eq_false_iff_eq, beq_eq_false_iff_ne, ne_eq, reduceCtorEq, not_true_eq_false, not_false_eq_true, add64, sub64] at h) <;> (try (exfalso; omega))) | (with_reducible refine tr_alt (fun h => ?_) ?_ <;> (try (exfalso; omega))) | (with_reducible refine tr_ob ?_ ?_) | (with_reducible refine tr_done ?_) | (refine aw_tr hj tok book0 (by cbv) ?_) | (refine aw_seq fun K hK => ?_) | (refine aw_tr1 hj tok book0 (by cbv) ?_) | (refine aw_condj (by cbv) (fun h => ?_) (fun h => ?_) <;> (try simp (disch := omega) only [hj, std, cmpI, cmpB, satB, Bool.not_eq_true, Bool.not_eq_false, decide_eq_true_eq, decide_eq_false_iff_not, beq_iff_eq, bne_iff_ne, bne_eq_false_iff_eq, beq_eq_false_iff_ne, ne_eq, reduceCtorEq, not_true_eq_false, not_false_eq_true, add64, sub64] at h) <;> (try (exfalso; omega))) | (refine aw_skip ?_) | (refine aw_block ?_) | (refine aw_exit ?_) | (refine aw_ret ⟨.inr rfl, ret_okj hj (by cbv) ?_ ?_⟩) | (refine aw_ret ?_) | (with_reducible refine th_n ?_) | (with_reducible refine th_r ?_) | (with_reducible refine th_x ?_) | (with_reducible refine blk_n ?_) | (with_reducible refine blk_r ?_) | (with_reducible refine blk_x ?_) | (with_reducible refine blk_y rfl ?_) | (refine ⟨.inr rfl, ret_okj hj (by cbv) ?_ ?_⟩) | (refine ⟨.inl rfl, ret_okj hj (by cbv) ?_ ?_⟩) | ((with_reducible refine ⟨(_, _, _, _, _, _, _), by cbv, ?_, ?_⟩)) | ((with_reducible refine ⟨(_, _, _, _, _, _), by cbv, ?_, ?_⟩)) | ((with_reducible refine ⟨(_, _, _, _, _), by cbv, ?_, ?_⟩)) | ((with_reducible refine ⟨(_, _, _, _), by cbv, ?_, ?_⟩)) | ((with_reducible refine ⟨(_, _, _), by cbv, ?_, ?_⟩)) | ((with_reducible refine ⟨(_, _), by cbv, ?_, ?_⟩)) | ((with_reducible refine ⟨_, by cbv, ?_, ?_⟩)) | (with_reducible apply_assumption -symm -exfalso only [*]))
  all_goals ((try subst y_isSpelI))
  all_goals first | exact obl0 | ((repeat (refine obl1 (by first | (simp (disch := omega) only [hj, std, cmpI, cmpB, satB, add64, sub64, isSpelI] <;> omega) | (simp (disch := omega) [hj, std, cmpI, cmpB, satB, add64, sub64, isSpelI] <;> omega) | (rw [Bool.eq_iff_iff]; simp (disch := omega) [hj, std, cmpI, cmpB, satB, add64, sub64, isSpelI] <;> omega) | omega) ?_)); exact obl0) | (refine ret1_b ?_ <;> first | (simp (disch := omega) only [hj, std, cmpI, cmpB, satB, add64, sub64, isSpelI] <;> omega) | (simp (disch := omega) [hj, std, cmpI, cmpB, satB, add64, sub64, isSpelI] <;> omega) | (rw [Bool.eq_iff_iff]; simp (disch := omega) [hj, std, cmpI, cmpB, satB, add64, sub64, isSpelI] <;> omega) | omega)
theorem c_notNl (n : Int) : pc 36 [.v false [vU n]] (ret1 (.st (vB (notNl n)))) := by
  refine ⟨enters Try.func36 (by kernel_rfl) (by kernel_rfl), pc_of tok Try.func36 rfl (by rfl) ?_⟩
  obtain ⟨j, hj⟩ : ∃ j : J, j = std Try.prog T := ⟨_, rfl⟩
  generalize y_notNl : @notNl = x_notNl at *
  (repeat' first | (with_reducible refine tr_cut (fun h => ?_) (fun h => ?_) <;> (try simp (disch := omega) only [hj, std, cmpI, cmpB, satB, Bool.not_eq_true, Bool.not_eq_false, decide_eq_true_eq, decide_eq_false_iff_not, beq_iff_eq, bne_iff_ne, bne_eq_false_iff_eq, beq_eq_false_iff_ne, ne_eq, reduceCtorEq, not_true_eq_false, not_false_eq_true, add64, sub64] at h) <;> (try (exfalso; omega))) | (with_reducible refine tr_alt (fun h => ?_) ?_ <;> (try (exfalso; omega))) | (with_reducible refine tr_ob ?_ ?_) | (with_reducible refine tr_done ?_) | (refine aw_tr hj tok book0 (by cbv) ?_) | (refine aw_seq fun K hK => ?_) | (refine aw_tr1 hj tok book0 (by cbv) ?_) | (refine aw_condj (by cbv) (fun h => ?_) (fun h => ?_) <;> (try simp (disch := omega) only [hj, std, cmpI, cmpB, satB, Bool.not_eq_true, Bool.not_eq_false, decide_eq_true_eq, decide_eq_false_iff_not, beq_iff_eq, bne_iff_ne, bne_eq_false_iff_eq, beq_eq_false_iff_ne, ne_eq, reduceCtorEq, not_true_eq_false, not_false_eq_true, add64, sub64] at h) <;> (try (exfalso; omega))) | (refine aw_skip ?_) | (refine aw_block ?_) | (refine aw_exit ?_) | (refine aw_ret ⟨.inr rfl, ret_okj hj (by cbv) ?_ ?_⟩) | (refine aw_ret ?_) | (with_reducible refine th_n ?_) | (with_reducible refine th_r ?_) | (with_reducible refine th_x ?_) | (with_reducible refine blk_n ?_) | (with_reducible refine blk_r ?_) | (with_reducible refine blk_x ?_) | (with_reducible refine blk_y rfl ?_) | (refine ⟨.inr rfl, ret_okj hj (by cbv) ?_ ?_⟩) | (refine ⟨.inl rfl, ret_okj hj (by cbv) ?_ ?_⟩) | ((with_reducible refine ⟨(_, _, _, _, _, _, _), by cbv, ?_, ?_⟩)) | ((with_reducible refine ⟨(_, _, _, _, _, _), by cbv, ?_, ?_⟩)) | ((with_reducible refine ⟨(_, _, _, _, _), by cbv, ?_, ?_⟩)) | ((with_reducible refine ⟨(_, _, _, _), by cbv, ?_, ?_⟩)) | ((with_reducible refine ⟨(_, _, _), by cbv, ?_, ?_⟩)) | ((with_reducible refine ⟨(_, _), by cbv, ?_, ?_⟩)) | ((with_reducible refine ⟨_, by cbv, ?_, ?_⟩)) | (with_reducible apply_assumption -symm -exfalso only [*]))
  all_goals ((try subst y_notNl))
  all_goals first | exact obl0 | ((repeat (refine obl1 (by first | (simp (disch := omega) only [hj, std, cmpI, cmpB, satB, add64, sub64, notNl, *] <;> omega) | (simp (disch := omega) [hj, std, cmpI, cmpB, satB, add64, sub64, notNl, *] <;> omega) | (rw [Bool.eq_iff_iff]; simp (disch := omega) [hj, std, cmpI, cmpB, satB, add64, sub64, notNl, *] <;> omega) | omega) ?_)); exact obl0) | (refine ret1_b ?_ <;> first | (simp (disch := omega) only [hj, std, cmpI, cmpB, satB, add64, sub64, notNl, *] <;> omega) | (simp (disch := omega) [hj, std, cmpI, cmpB, satB, add64, sub64, notNl, *] <;> omega) | (rw [Bool.eq_iff_iff]; simp (disch := omega) [hj, std, cmpI, cmpB, satB, add64, sub64, notNl, *] <;> omega) | omega)
theorem c_run {s : ByteArray} {f : FuncId} {p : Int → Bool} (hs : s.size < 4611686018427387904) (hp : ∀ n, pc f [.v false [vU n]] (ret1 (.st (vB (p n))))) :
    pc 29 [.v false [vS s], .fn f] (ret1 (.st (vI (spanI p s 0)))) :=
  ⟨enters Try.func29 (by kernel_rfl) (by kernel_rfl), pc_run s f p hs hp⟩
def skipI (s : ByteArray) (i : Int) : Int := (skip s i.toNat : Nat)
def cutI (s : ByteArray) (lo hi : Nat) : ByteArray := s.extract lo hi
def book2 (x_isLetI : Int → Bool) (x_isMoreI : Int → Bool) (x_spanI : (Int → Bool) → ByteArray → Int → Int) (x_isSpelI : Int → Bool) (x_notNl : Int → Bool) (x_skipI : ByteArray → Int → Int) : Book := fun f xs => match f, xs with
  | 28, [.v false [.val (.int .u8 n)]] => some (ret1 (.st (vB (x_isLetI n))))
  | 29, [.v false [.val (.string s)], .fn 30] => some (ret1 (.st (vI (x_spanI x_isMoreI s 0))))
  | 29, [.v false [.val (.string s)], .fn 31] => some (ret1 (.st (vI (x_spanI x_isSpelI s 0))))
  | 29, [.v false [.val (.string s)], .fn 36] => some (ret1 (.st (vI (x_spanI x_notNl s 0))))
  | 22, [.v false [.val (.string s)]] => some (ret1 (.st (vI (x_skipI s 0))))
  | _, _ => none
/- a cut to the end -/
theorem bt_tail (s : ByteArray) (i k : Nat) (h : i ≤ s.size) : bt (s.extract i s.size) k = bt s (i + k) := by
  unfold bt
  by_cases hk : i + k < s.size
  · rw [dif_pos (by rw [ByteArray.size_extract]; omega), dif_pos hk, ByteArray.getElem_extract]
  · rw [dif_neg (by rw [ByteArray.size_extract]; omega), dif_neg hk]
theorem size_tail (s : ByteArray) (i : Nat) : (s.extract i s.size).size = s.size - i := by rw [ByteArray.size_extract]; omega
theorem span_tail (p : Nat → Bool) (s : ByteArray) (i k : Nat) (h : i ≤ s.size) : span p (s.extract i s.size) k + i = span p s (i + k) := by
  rw [span, span.eq_1 p s (i + k), size_tail, bt_tail s i k h]
  by_cases hk : k < s.size - i ∧ p (bt s (i + k)) = true
  · rw [dif_pos hk, dif_pos ⟨by omega, hk.2⟩, span_tail p s i (k + 1) h, Nat.add_assoc]
  · rw [dif_neg hk, dif_neg (fun hh => hk ⟨by omega, hh.2⟩)]; omega
termination_by s.size - i - k
theorem spanI_tail (p : Int → Bool) (s : ByteArray) {i : Int} (h0 : 0 ≤ i) (h : i ≤ s.size) : i + spanI p (s.extract i.toNat s.size) 0 = spanI p s i := by
  unfold spanI
  have := span_tail (fun c => p (c : Int)) s i.toNat 0 (by omega)
  simp only [Nat.add_zero] at this
  simp only [Int.toNat_zero]
  omega
theorem spanI_ge (p : Int → Bool) (s : ByteArray) {i : Int} (h0 : 0 ≤ i) : i ≤ spanI p s i := by
  unfold spanI; have := span_ge (fun c => p (c : Int)) s i.toNat; omega
theorem spanI_le (p : Int → Bool) (s : ByteArray) {i : Int} (h0 : 0 ≤ i) (h : i ≤ s.size) : spanI p s i ≤ s.size := by
  unfold spanI; have := span_le (fun c => p (c : Int)) s i.toNat (by omega); omega
theorem spanI_gt {p : Int → Bool} {s : ByteArray} {i : Int} (h0 : 0 ≤ i) (h : i < s.size) (hp : p (bt s i.toNat : Int) = true) : i < spanI p s i := by
  unfold spanI; have := span_gt (p := fun c => p (c : Int)) (s := s) (i := i.toNat) (by omega) hp; omega
theorem add_span {p : Int → Bool} {s : ByteArray} {i : Int} (hs : s.size < 4611686018427387904) (h0 : 0 ≤ i) (h : i ≤ s.size) : arithI .add .i64 i (spanI p (s.extract i.toNat s.size) 0) = spanI p s i := by
  have h1 := spanI_le p s h0 h
  have h2 := spanI_ge p s h0
  have h3 := spanI_tail p s h0 h
  rw [add64 (by omega) (by omega), h3]
theorem tail_lt {s : ByteArray} {a : Nat} (hs : s.size < 4611686018427387904) : (s.extract a s.size).size < 4611686018427387904 := by rw [size_tail]; omega
theorem skipI_blank {s : ByteArray} {i : Int} (h0 : 0 ≤ i) (h : i < s.size) (hb : bt s i.toNat = 32 ∨ bt s i.toNat = 9 ∨ bt s i.toNat = 13 ∨ bt s i.toNat = 10) : skipI s (i + 1) = skipI s i := by
  unfold skipI
  rw [skip.eq_1 s i.toNat, dif_pos (by omega), if_pos (by simp [isBlankN]; omega), show (i + 1).toNat = i.toNat + 1 by omega]
theorem notNl_eq : (fun c : Nat => notNl (c : Int)) = fun c => !decide (c = 10) := by
  funext c; simp [notNl]; omega
theorem skipI_hash {s : ByteArray} {i : Int} (h0 : 0 ≤ i) (h : i < s.size) (hb : bt s i.toNat = 35) : skipI s (spanI notNl s i) = skipI s i := by
  unfold skipI spanI
  rw [skip.eq_1 s i.toNat, dif_pos (by omega), if_neg (by simp [isBlankN, hb]), dif_pos hb, notNl_eq, Int.toNat_natCast]
theorem skipI_stop {s : ByteArray} {i : Int} (h0 : 0 ≤ i) (hb : ¬ (bt s i.toNat = 32 ∨ bt s i.toNat = 9 ∨ bt s i.toNat = 13 ∨ bt s i.toNat = 10 ∨ bt s i.toNat = 35)) : skipI s i = i := by
  unfold skipI
  rw [skip.eq_1 s i.toNat]
  split
  · rw [if_neg (by simp [isBlankN]; omega), dif_neg (by omega)]; omega
  · omega
theorem skipI_end {s : ByteArray} {i : Int} (h0 : 0 ≤ i) (h : ¬ i < s.size) : skipI s i = i := by
  unfold skipI
  rw [skip.eq_1 s i.toNat, dif_neg (by omega)]; omega
theorem pc_blank (s : ByteArray) (hs : s.size < 4611686018427387904) : PC Try.prog T 22 [.v false [vS s]] (ret1 (.st (vI (skipI s 0)))) [] := by
  refine pc_of tok Try.func22 rfl (by rfl) ?_
  obtain ⟨j, hj⟩ : ∃ j : J, j = std Try.prog T := ⟨_, rfl⟩
  generalize y_isLetI : @isLetI = x_isLetI at *
  generalize y_isMoreI : @isMoreI = x_isMoreI at *
  generalize y_spanI : @spanI = x_spanI at *
  generalize y_isSpelI : @isSpelI = x_isSpelI at *
  generalize y_notNl : @notNl = x_notNl at *
  generalize y_skipI : @skipI = x_skipI at *
  (repeat' first | (with_reducible refine tr_cut (fun h => ?_) (fun h => ?_) <;> (try simp (disch := omega) only [hj, std, cmpI, cmpB, satB, Bool.not_eq_true, Bool.not_eq_false, decide_eq_true_eq, decide_eq_false_iff_not, beq_iff_eq, bne_iff_ne, bne_eq_false_iff_eq, beq_eq_false_iff_ne, ne_eq, reduceCtorEq, not_true_eq_false, not_false_eq_true, add64, sub64] at h) <;> (try (exfalso; omega))) | (with_reducible refine tr_alt (fun h => ?_) ?_ <;> (try (exfalso; omega))) | (with_reducible refine tr_ob ?_ ?_) | (with_reducible refine tr_done ?_) | (refine aw_tr hj tok (book2 x_isLetI x_isMoreI x_spanI x_isSpelI x_notNl x_skipI) (by cbv) ?_) | (refine aw_seq fun K hK => ?_) | (refine aw_tr1 hj tok (book2 x_isLetI x_isMoreI x_spanI x_isSpelI x_notNl x_skipI) (by cbv) ?_) | (refine aw_condj (by cbv) (fun h => ?_) (fun h => ?_) <;> (try simp (disch := omega) only [hj, std, cmpI, cmpB, satB, Bool.not_eq_true, Bool.not_eq_false, decide_eq_true_eq, decide_eq_false_iff_not, beq_iff_eq, bne_iff_ne, bne_eq_false_iff_eq, beq_eq_false_iff_ne, ne_eq, reduceCtorEq, not_true_eq_false, not_false_eq_true, add64, sub64] at h) <;> (try (exfalso; omega))) | (refine aw_skip ?_) | (refine aw_block ?_) | (refine aw_exit ?_) | (refine aw_ret ⟨.inr rfl, ret_okj hj (by cbv) ?_ ?_⟩) | (refine aw_ret ?_) | (with_reducible refine th_n ?_) | (with_reducible refine th_r ?_) | (with_reducible refine th_x ?_) | (with_reducible refine blk_n ?_) | (with_reducible refine blk_r ?_) | (with_reducible refine blk_x ?_) | (with_reducible refine blk_y rfl ?_) | (refine ⟨.inr rfl, ret_okj hj (by cbv) ?_ ?_⟩) | (refine ⟨.inl rfl, ret_okj hj (by cbv) ?_ ?_⟩) | ((with_reducible refine ⟨(_, _, _, _, _, _, _), by cbv, ?_, ?_⟩)) | ((with_reducible refine ⟨(_, _, _, _, _, _), by cbv, ?_, ?_⟩)) | ((with_reducible refine ⟨(_, _, _, _, _), by cbv, ?_, ?_⟩)) | ((with_reducible refine ⟨(_, _, _, _), by cbv, ?_, ?_⟩)) | ((with_reducible refine ⟨(_, _, _), by cbv, ?_, ?_⟩)) | ((with_reducible refine ⟨(_, _), by cbv, ?_, ?_⟩)) | ((with_reducible refine ⟨_, by cbv, ?_, ?_⟩)) | (with_reducible apply_assumption -symm -exfalso only [*]))
  all_goals ((try subst y_isLetI); (try subst y_isMoreI); (try subst y_spanI); (try subst y_isSpelI); (try subst y_notNl); (try subst y_skipI))
  refine aw_lpj hj [(0, .keep), (3, .keep)] [] (fun i : Int => stOf 31 [(0, .one (.c (vS s))), (3, .one (.c (vI i)))] []) (fun i => s.size - i.toNat) (fun i => 0 ≤ i ∧ i ≤ s.size ∧ skipI s i = skipI s 0) 0 (by generalize @isLetI = x_isLetI; generalize @isMoreI = x_isMoreI; generalize @spanI = x_spanI; generalize @isSpelI = x_isSpelI; generalize @notNl = x_notNl; generalize @skipI = x_skipI; cbv) ⟨by omega, by omega, rfl⟩ fun i ⟨i1, i2, i3⟩ => ?_
  generalize y_isLetI : @isLetI = x_isLetI at *
  generalize y_isMoreI : @isMoreI = x_isMoreI at *
  generalize y_spanI : @spanI = x_spanI at *
  generalize y_isSpelI : @isSpelI = x_isSpelI at *
  generalize y_notNl : @notNl = x_notNl at *
  generalize y_skipI : @skipI = x_skipI at *
  (repeat' first | (with_reducible refine tr_cut (fun h => ?_) (fun h => ?_) <;> (try simp (disch := omega) only [hj, std, cmpI, cmpB, satB, Bool.not_eq_true, Bool.not_eq_false, decide_eq_true_eq, decide_eq_false_iff_not, beq_iff_eq, bne_iff_ne, bne_eq_false_iff_eq, beq_eq_false_iff_ne, ne_eq, reduceCtorEq, not_true_eq_false, not_false_eq_true, add64, sub64] at h) <;> (try (exfalso; omega))) | (with_reducible refine tr_alt (fun h => ?_) ?_ <;> (try (exfalso; omega))) | (with_reducible refine tr_ob ?_ ?_) | (with_reducible refine tr_done ?_) | (refine aw_tr hj tok (book2 x_isLetI x_isMoreI x_spanI x_isSpelI x_notNl x_skipI) (by cbv) ?_) | (refine aw_seq fun K hK => ?_) | (refine aw_tr1 hj tok (book2 x_isLetI x_isMoreI x_spanI x_isSpelI x_notNl x_skipI) (by cbv) ?_) | (refine aw_condj (by cbv) (fun h => ?_) (fun h => ?_) <;> (try simp (disch := omega) only [hj, std, cmpI, cmpB, satB, Bool.not_eq_true, Bool.not_eq_false, decide_eq_true_eq, decide_eq_false_iff_not, beq_iff_eq, bne_iff_ne, bne_eq_false_iff_eq, beq_eq_false_iff_ne, ne_eq, reduceCtorEq, not_true_eq_false, not_false_eq_true, add64, sub64] at h) <;> (try (exfalso; omega))) | (refine aw_skip ?_) | (refine aw_block ?_) | (refine aw_exit ?_) | (refine aw_ret ⟨.inr rfl, ret_okj hj (by cbv) ?_ ?_⟩) | (refine aw_ret ?_) | (with_reducible refine th_n ?_) | (with_reducible refine th_r ?_) | (with_reducible refine th_x ?_) | (with_reducible refine blk_n ?_) | (with_reducible refine blk_r ?_) | (with_reducible refine blk_x ?_) | (with_reducible refine blk_y rfl ?_) | (refine ⟨.inr rfl, ret_okj hj (by cbv) ?_ ?_⟩) | (refine ⟨.inl rfl, ret_okj hj (by cbv) ?_ ?_⟩) | ((with_reducible refine ⟨(_, _, _, _, _, _, _), by cbv, ?_, ?_⟩)) | ((with_reducible refine ⟨(_, _, _, _, _, _), by cbv, ?_, ?_⟩)) | ((with_reducible refine ⟨(_, _, _, _, _), by cbv, ?_, ?_⟩)) | ((with_reducible refine ⟨(_, _, _, _), by cbv, ?_, ?_⟩)) | ((with_reducible refine ⟨(_, _, _), by cbv, ?_, ?_⟩)) | ((with_reducible refine ⟨(_, _), by cbv, ?_, ?_⟩)) | ((with_reducible refine ⟨_, by cbv, ?_, ?_⟩)) | (with_reducible apply_assumption -symm -exfalso only [*]))
  all_goals ((try subst y_isLetI); (try subst y_isMoreI); (try subst y_spanI); (try subst y_isSpelI); (try subst y_notNl); (try subst y_skipI))
  all_goals first | exact obl0 | ((repeat (refine obl1 (by first | (rw [hj]; exact c_run (tail_lt hs) c_notNl) | (rw [← i3]; exact skipI_stop i1 (by omega)) | (rw [← i3]; exact skipI_end i1 ‹_›) | ((simp (disch := omega) only [hj, std, add64]; rw [skipI_blank i1 ‹_› (by omega)]; exact i3)) | ((simp (disch := omega) only [hj, std, add_span]; rw [skipI_hash i1 ‹_› (by omega)]; exact i3)) | ((simp (disch := omega) only [hj, std, add_span]; have f1 := spanI_ge notNl s i1; have f2 := spanI_le notNl s i1 i2; have f3 := spanI_gt (p := notNl) i1 ‹_› (by rw [‹(bt s i.toNat : Int) = 35›]; rfl); omega)) | (simp (disch := omega) only [hj, std, cmpI, cmpB, satB, add64, sub64, add_span] <;> omega) | (simp (disch := omega) [hj, std, cmpI, cmpB, satB, add64, sub64, add_span] <;> omega) | (rw [Bool.eq_iff_iff]; simp (disch := omega) [hj, std, cmpI, cmpB, satB, add64, sub64, add_span] <;> omega) | omega) ?_)); exact obl0) | (refine ret1_i ?_ <;> first | (rw [hj]; exact c_run (tail_lt hs) c_notNl) | (rw [← i3]; exact skipI_stop i1 (by omega)) | (rw [← i3]; exact skipI_end i1 ‹_›) | ((simp (disch := omega) only [hj, std, add64]; rw [skipI_blank i1 ‹_› (by omega)]; exact i3)) | ((simp (disch := omega) only [hj, std, add_span]; rw [skipI_hash i1 ‹_› (by omega)]; exact i3)) | ((simp (disch := omega) only [hj, std, add_span]; have f1 := spanI_ge notNl s i1; have f2 := spanI_le notNl s i1 i2; have f3 := spanI_gt (p := notNl) i1 ‹_› (by rw [‹(bt s i.toNat : Int) = 35›]; rfl); omega)) | (simp (disch := omega) only [hj, std, cmpI, cmpB, satB, add64, sub64, add_span] <;> omega) | (simp (disch := omega) [hj, std, cmpI, cmpB, satB, add64, sub64, add_span] <;> omega) | (rw [Bool.eq_iff_iff]; simp (disch := omega) [hj, std, cmpI, cmpB, satB, add64, sub64, add_span] <;> omega) | omega) | (and_intros <;> first | (rw [hj]; exact c_run (tail_lt hs) c_notNl) | (rw [← i3]; exact skipI_stop i1 (by omega)) | (rw [← i3]; exact skipI_end i1 ‹_›) | ((simp (disch := omega) only [hj, std, add64]; rw [skipI_blank i1 ‹_› (by omega)]; exact i3)) | ((simp (disch := omega) only [hj, std, add_span]; rw [skipI_hash i1 ‹_› (by omega)]; exact i3)) | ((simp (disch := omega) only [hj, std, add_span]; have f1 := spanI_ge notNl s i1; have f2 := spanI_le notNl s i1 i2; have f3 := spanI_gt (p := notNl) i1 ‹_› (by rw [‹(bt s i.toNat : Int) = 35›]; rfl); omega)) | (simp (disch := omega) only [hj, std, cmpI, cmpB, satB, add64, sub64, add_span] <;> omega) | (simp (disch := omega) [hj, std, cmpI, cmpB, satB, add64, sub64, add_span] <;> omega) | (rw [Bool.eq_iff_iff]; simp (disch := omega) [hj, std, cmpI, cmpB, satB, add64, sub64, add_span] <;> omega) | omega) | (refine ret1_b ?_ <;> first | (rw [hj]; exact c_run (tail_lt hs) c_notNl) | (rw [← i3]; exact skipI_stop i1 (by omega)) | (rw [← i3]; exact skipI_end i1 ‹_›) | ((simp (disch := omega) only [hj, std, add64]; rw [skipI_blank i1 ‹_› (by omega)]; exact i3)) | ((simp (disch := omega) only [hj, std, add_span]; rw [skipI_hash i1 ‹_› (by omega)]; exact i3)) | ((simp (disch := omega) only [hj, std, add_span]; have f1 := spanI_ge notNl s i1; have f2 := spanI_le notNl s i1 i2; have f3 := spanI_gt (p := notNl) i1 ‹_› (by rw [‹(bt s i.toNat : Int) = 35›]; rfl); omega)) | (simp (disch := omega) only [hj, std, cmpI, cmpB, satB, add64, sub64, add_span] <;> omega) | (simp (disch := omega) [hj, std, cmpI, cmpB, satB, add64, sub64, add_span] <;> omega) | (rw [Bool.eq_iff_iff]; simp (disch := omega) [hj, std, cmpI, cmpB, satB, add64, sub64, add_span] <;> omega) | omega)
end Go.Proofs.Ytljnfejcdadjpaa.A

/- Lexing: long and first of lex. -/
set_option linter.unusedSimpArgs false
set_option linter.unusedVariables false
set_option maxRecDepth 100000
set_option maxHeartbeats 4000000
namespace Go.Proofs.Ytljnfejcdadjpaa.A
open Go
def lgI (t : ByteArray) (x : Int) : Int := if 32 < t.size then 0 else x
def lgS (t : ByteArray) : ByteArray := if 32 < t.size then ByteArray.empty else t
def lgE (t : ByteArray) : Int := if 32 < t.size then 19 else 0
def tkK (s : ByteArray) (i : Int) : Int := (tokAt s i.toNat).1.1
def tkT (s : ByteArray) (i : Int) : ByteArray := (tokAt s i.toNat).1.2.1
def tkW (s : ByteArray) (i : Int) : Int := (tokAt s i.toNat).1.2.2
def tkN (s : ByteArray) (i : Int) : Int := ((tokAt s i.toNat).2.1 : Nat)
def tkE (s : ByteArray) (i : Int) : Int := (tokAt s i.toNat).2.2
def rTok (k : Int) (t : ByteArray) (w n e : Int) : RV := rets [(true, [.st (vI k), .st (vS t), .st (vI w)]), (false, [.st (vI n)]), (false, [.st (vI e)])]
theorem rTok_eq {k k' : Int} {t t' : ByteArray} {w w' n n' e e' : Int} (h1 : k = k') (h2 : t = t') (h3 : w = w') (h4 : n = n') (h5 : e = e') :
    rTok k t w n e = ⟨true, [(true, [.st (.val (.int .i64 k')), .st (.val (.string t')), .st (.val (.int .i64 w'))]), (false, [.st (.val (.int .i64 n'))]), (false, [.st (.val (.int .i64 e'))])]⟩ := by
  rw [h1, h2, h3, h4, h5]; rfl
theorem c_long (k : Int) (t : ByteArray) (w n : Int) : pc 37 [.v true [vI k, vS t, vI w], .v false [vI n]] (rTok (lgI t k) (lgS t) (lgI t w) (lgI t n) (lgE t)) := by
  refine ⟨enters Try.func37 (by kernel_rfl) (by kernel_rfl), pc_of tok Try.func37 rfl (by rfl) ?_⟩
  obtain ⟨j, hj⟩ : ∃ j : J, j = std Try.prog T := ⟨_, rfl⟩
  generalize y_lgI : @lgI = x_lgI at *
  generalize y_lgS : @lgS = x_lgS at *
  generalize y_lgE : @lgE = x_lgE at *
  (repeat' first | (with_reducible refine tr_cut (fun h => ?_) (fun h => ?_) <;> (try simp (disch := omega) only [hj, std, cmpI, cmpB, satB, Bool.not_eq_true, Bool.not_eq_false, decide_eq_true_eq, decide_eq_false_iff_not, beq_iff_eq, bne_iff_ne, bne_eq_false_iff_eq, beq_eq_false_iff_ne, ne_eq, reduceCtorEq, not_true_eq_false, not_false_eq_true, add64, sub64] at h) <;> (try (exfalso; omega))) | (with_reducible refine tr_alt (fun h => ?_) ?_ <;> (try (exfalso; omega))) | (with_reducible refine tr_ob ?_ ?_) | (with_reducible refine tr_done ?_) | (refine aw_tr hj tok book0 (by cbv) ?_) | (refine aw_seq fun K hK => ?_) | (refine aw_tr1 hj tok book0 (by cbv) ?_) | (refine aw_condj (by cbv) (fun h => ?_) (fun h => ?_) <;> (try simp (disch := omega) only [hj, std, cmpI, cmpB, satB, Bool.not_eq_true, Bool.not_eq_false, decide_eq_true_eq, decide_eq_false_iff_not, beq_iff_eq, bne_iff_ne, bne_eq_false_iff_eq, beq_eq_false_iff_ne, ne_eq, reduceCtorEq, not_true_eq_false, not_false_eq_true, add64, sub64] at h) <;> (try (exfalso; omega))) | (refine aw_skip ?_) | (refine aw_block ?_) | (refine aw_exit ?_) | (refine aw_ret ⟨.inr rfl, ret_okj hj (by cbv) ?_ ?_⟩) | (refine aw_ret ?_) | (with_reducible refine th_n ?_) | (with_reducible refine th_r ?_) | (with_reducible refine th_x ?_) | (with_reducible refine blk_n ?_) | (with_reducible refine blk_r ?_) | (with_reducible refine blk_x ?_) | (with_reducible refine blk_y rfl ?_) | (refine ⟨.inr rfl, ret_okj hj (by cbv) ?_ ?_⟩) | (refine ⟨.inl rfl, ret_okj hj (by cbv) ?_ ?_⟩) | ((with_reducible refine ⟨(_, _, _, _, _, _, _), by cbv, ?_, ?_⟩)) | ((with_reducible refine ⟨(_, _, _, _, _, _), by cbv, ?_, ?_⟩)) | ((with_reducible refine ⟨(_, _, _, _, _), by cbv, ?_, ?_⟩)) | ((with_reducible refine ⟨(_, _, _, _), by cbv, ?_, ?_⟩)) | ((with_reducible refine ⟨(_, _, _), by cbv, ?_, ?_⟩)) | ((with_reducible refine ⟨(_, _), by cbv, ?_, ?_⟩)) | ((with_reducible refine ⟨_, by cbv, ?_, ?_⟩)) | (with_reducible apply_assumption -symm -exfalso only [*]))
  all_goals ((try subst y_lgI); (try subst y_lgS); (try subst y_lgE))
  all_goals first | exact obl0 | ((repeat (refine obl1 (by first | ((simp only [lgI, lgS, lgE]; split <;> first | rfl | (exfalso; omega))) | (rfl) | (simp (disch := omega) only [hj, std, cmpI, cmpB, satB, add64, sub64] <;> omega) | (simp (disch := omega) [hj, std, cmpI, cmpB, satB, add64, sub64] <;> omega) | (rw [Bool.eq_iff_iff]; simp (disch := omega) [hj, std, cmpI, cmpB, satB, add64, sub64] <;> omega) | omega) ?_)); exact obl0) | (refine rTok_eq ?_ ?_ ?_ ?_ ?_ <;> first | ((simp only [lgI, lgS, lgE]; split <;> first | rfl | (exfalso; omega))) | (rfl) | (simp (disch := omega) only [hj, std, cmpI, cmpB, satB, add64, sub64] <;> omega) | (simp (disch := omega) [hj, std, cmpI, cmpB, satB, add64, sub64] <;> omega) | (rw [Bool.eq_iff_iff]; simp (disch := omega) [hj, std, cmpI, cmpB, satB, add64, sub64] <;> omega) | omega) | (refine ret1_b ?_ <;> first | ((simp only [lgI, lgS, lgE]; split <;> first | rfl | (exfalso; omega))) | (rfl) | (simp (disch := omega) only [hj, std, cmpI, cmpB, satB, add64, sub64] <;> omega) | (simp (disch := omega) [hj, std, cmpI, cmpB, satB, add64, sub64] <;> omega) | (rw [Bool.eq_iff_iff]; simp (disch := omega) [hj, std, cmpI, cmpB, satB, add64, sub64] <;> omega) | omega)
theorem isMoreN_eq : (fun c : Nat => isMoreI (c : Int)) = isMoreN := by
  funext c; simp only [isMoreI, isLetI, isMoreN, isLetN]; rw [Bool.eq_iff_iff]; simp; omega
theorem isSpelN_eq : (fun c : Nat => isSpelI (c : Int)) = isSpelN := by
  funext c; simp only [isSpelI, isSpelN]; rw [Bool.eq_iff_iff]; simp; omega
theorem isLetN_eq (c : Nat) : isLetI (c : Int) = isLetN c := by
  simp only [isLetI, isLetN]; rw [Bool.eq_iff_iff]; simp; omega
theorem moreI (s : ByteArray) (i : Int) : (spanI isMoreI s i).toNat = span isMoreN s i.toNat := by unfold spanI; rw [isMoreN_eq]; omega
theorem spelI (s : ByteArray) (i : Int) : (spanI isSpelI s i).toNat = span isSpelN s i.toNat := by unfold spanI; rw [isSpelN_eq]; omega
theorem tok_p {s : ByteArray} {i : Int} {c k : Nat} (hk : (c = 58 ∧ k = 3) ∨ (c = 124 ∧ k = 4) ∨ (c = 59 ∧ k = 5)) (h : (bt s i.toNat : Int) = c) : tokAt s i.toNat = (((k : Int), ⟨#[UInt8.ofNat c]⟩, (i.toNat : Int)), i.toNat + 1, 0) := by
  have h' : bt s i.toNat = c := by omega
  unfold tokAt
  dsimp only
  rw [h']
  rcases hk with ⟨rfl, rfl⟩ | ⟨rfl, rfl⟩ | ⟨rfl, rfl⟩ <;> rfl
theorem tok_let {s : ByteArray} {i : Int} (a : ¬ (bt s i.toNat : Int) = 58) (b : ¬ (bt s i.toNat : Int) = 124) (c : ¬ (bt s i.toNat : Int) = 59) (d : isLetI (bt s i.toNat) = true) :
    tokAt s i.toNat = if 32 < (spanI isMoreI s i).toNat - i.toNat then (tk0, i.toNat, 19) else ((1, s.extract i.toNat (spanI isMoreI s i).toNat, i.toNat), (spanI isMoreI s i).toNat, 0) := by
  unfold tokAt
  dsimp only
  rw [if_neg (by omega), if_neg (by omega), if_neg (by omega), if_pos (by rw [← isLetN_eq]; exact d), moreI]
theorem tok_q {s : ByteArray} {i : Int} (h0 : 0 ≤ i) (a : (bt s i.toNat : Int) = 39) :
    tokAt s i.toNat = if s.size ≤ (spanI isSpelI s (i + 1)).toNat ∨ bt s (spanI isSpelI s (i + 1)).toNat ≠ 39 ∨ (spanI isSpelI s (i + 1)).toNat = i.toNat + 1 then (tk0, i.toNat, 13)
      else if 32 < (spanI isSpelI s (i + 1)).toNat - i.toNat - 1 then (tk0, i.toNat, 19) else ((2, s.extract (i.toNat + 1) (spanI isSpelI s (i + 1)).toNat, i.toNat), (spanI isSpelI s (i + 1)).toNat + 1, 0) := by
  have a' : bt s i.toNat = 39 := by omega
  unfold tokAt
  dsimp only
  rw [if_neg (by omega), if_neg (by omega), if_neg (by omega), if_neg (by rw [a']; decide), if_pos a', spelI, show (i + 1).toNat = i.toNat + 1 by omega]
theorem tok_bad {s : ByteArray} {i : Int} (a : ¬ (bt s i.toNat : Int) = 58) (b : ¬ (bt s i.toNat : Int) = 124) (c : ¬ (bt s i.toNat : Int) = 59) (d : isLetI (bt s i.toNat) = false) (e : ¬ (bt s i.toNat : Int) = 39) : tokAt s i.toNat = (tk0, i.toNat, 13) := by
  unfold tokAt
  dsimp only
  rw [if_neg (by omega), if_neg (by omega), if_neg (by omega), if_neg (by rw [← isLetN_eq, d]; simp), if_neg (by omega)]
/-- what first gives, at once -/
def Firsts (s : ByteArray) (k : Int) (t : ByteArray) (w n e : Int) : Prop := tkK s 0 = k ∧ tkT s 0 = t ∧ tkW s 0 = w ∧ tkN s 0 = n ∧ tkE s 0 = e
theorem firsts_of {s : ByteArray} {k : Int} {t : ByteArray} {w : Int} {n : Nat} {e : Int} (h : tokAt s (Int.toNat 0) = ((k, t, w), n, e)) : Firsts s k t w n e := by
  refine ⟨?_, ?_, ?_, ?_, ?_⟩ <;> simp only [tkK, tkT, tkW, tkN, tkE] <;> rw [h]
theorem first_let {s : ByteArray} (a : ¬ (bt s (Int.toNat 0) : Int) = 58) (b : ¬ (bt s (Int.toNat 0) : Int) = 124) (c : ¬ (bt s (Int.toNat 0) : Int) = 59) (d : isLetI (bt s (Int.toNat 0)) = true) :
    Firsts s (lgI (s.extract 0 (spanI isMoreI s 0).toNat) 1) (lgS (s.extract 0 (spanI isMoreI s 0).toNat)) (lgI (s.extract 0 (spanI isMoreI s 0).toNat) 0) (lgI (s.extract 0 (spanI isMoreI s 0).toNat) (spanI isMoreI s 0)) (lgE (s.extract 0 (spanI isMoreI s 0).toNat)) := by
  have h := tok_let a b c d
  have h1 := spanI_le isMoreI s (i := 0) (by omega) (by omega)
  have h2 := spanI_ge isMoreI s (i := 0) (by omega)
  have hz : (s.extract 0 (spanI isMoreI s 0).toNat).size = (spanI isMoreI s 0).toNat := by rw [ByteArray.size_extract]; omega
  simp only [lgI, lgS, lgE, hz]
  by_cases hb : 32 < (spanI isMoreI s 0).toNat
  · rw [if_pos (by simpa using hb)] at h
    simp only [if_pos hb]
    exact firsts_of h
  · rw [if_neg (by simpa using hb)] at h
    simp only [if_neg hb]
    have := firsts_of h
    rwa [show (((spanI isMoreI s 0).toNat : Nat) : Int) = spanI isMoreI s 0 by omega] at this
theorem first_q {s : ByteArray} (h0 : 0 < s.size) (a : (bt s (Int.toNat 0) : Int) = 39) (r : Int) (hr : r = spanI isSpelI (s.extract (Int.toNat 1) s.size) 0) (c1 : 0 < r) (c2 : r + 1 < s.size) (c3 : (bt s (r + 1).toNat : Int) = 39) :
    Firsts s (lgI (s.extract (Int.toNat 1) (r + 1).toNat) 2) (lgS (s.extract (Int.toNat 1) (r + 1).toNat)) (lgI (s.extract (Int.toNat 1) (r + 1).toNat) 0) (lgI (s.extract (Int.toNat 1) (r + 1).toNat) (r + 2)) (lgE (s.extract (Int.toNat 1) (r + 1).toNat)) := by
  have e1 := spanI_tail isSpelI s (i := 1) (by omega) (by omega)
  rw [← hr] at e1
  have h := tok_q (i := 0) (by omega) a
  rw [show (0 : Int) + 1 = 1 by omega, ← e1, if_neg (by rw [show (1 + r) = r + 1 by omega]; omega)] at h
  have hz : (s.extract (Int.toNat 1) (r + 1).toNat).size = r.toNat := by rw [ByteArray.size_extract]; omega
  simp only [lgI, lgS, lgE, hz]
  by_cases hb : 32 < r.toNat
  · rw [if_pos (by simp; omega)] at h
    simp only [if_pos hb]
    exact firsts_of h
  · rw [if_neg (by simp; omega)] at h
    simp only [if_neg hb]
    have := firsts_of h
    rw [show (1 + r) = r + 1 by omega] at this
    rwa [show (((r + 1).toNat + 1 : Nat) : Int) = r + 2 by omega] at this
theorem first_qbad {s : ByteArray} (h0 : 0 < s.size) (a : (bt s (Int.toNat 0) : Int) = 39) (r : Int) (hr : r = spanI isSpelI (s.extract (Int.toNat 1) s.size) 0) (c : ¬ (0 < r ∧ r + 1 < s.size ∧ (bt s (r + 1).toNat : Int) = 39)) :
    Firsts s 0 ByteArray.empty 0 0 13 := by
  have e1 := spanI_tail isSpelI s (i := 1) (by omega) (by omega)
  have e2 := spanI_ge isSpelI s (i := 1) (by omega)
  rw [← hr] at e1
  have h := tok_q (i := 0) (by omega) a
  rw [show (0 : Int) + 1 = 1 by omega, ← e1, if_pos (by rw [show (1 + r) = r + 1 by omega]; omega)] at h
  exact firsts_of h
theorem first_bad {s : ByteArray} (a : ¬ (bt s (Int.toNat 0) : Int) = 58) (b : ¬ (bt s (Int.toNat 0) : Int) = 124) (c : ¬ (bt s (Int.toNat 0) : Int) = 59) (d : isLetI (bt s (Int.toNat 0)) = false) (e : ¬ (bt s (Int.toNat 0) : Int) = 39) : Firsts s 0 ByteArray.empty 0 0 13 :=
  firsts_of (tok_bad a b c d e)
theorem first_p {s : ByteArray} {c k : Nat} (hk : (c = 58 ∧ k = 3) ∨ (c = 124 ∧ k = 4) ∨ (c = 59 ∧ k = 5)) (h : (bt s (Int.toNat 0) : Int) = c) : Firsts s k ⟨#[UInt8.ofNat c]⟩ 0 1 0 := firsts_of (tok_p hk h)
theorem rTok_of {s : ByteArray} {k' : Int} {t' : ByteArray} {w' n' e' : Int} (h : Firsts s k' t' w' n' e') :
    rTok (tkK s 0) (tkT s 0) (tkW s 0) (tkN s 0) (tkE s 0) = ⟨true, [(true, [.st (.val (.int .i64 k')), .st (.val (.string t')), .st (.val (.int .i64 w'))]), (false, [.st (.val (.int .i64 n'))]), (false, [.st (.val (.int .i64 e'))])]⟩ :=
  rTok_eq h.1 h.2.1 h.2.2.1 h.2.2.2.1 h.2.2.2.2
def book3 (x_isLetI : Int → Bool) (x_isMoreI : Int → Bool) (x_spanI : (Int → Bool) → ByteArray → Int → Int) (x_isSpelI : Int → Bool) (x_lgI : ByteArray → Int → Int) (x_lgS : ByteArray → ByteArray) (x_lgE : ByteArray → Int) : Book := fun f xs => match f, xs with
  | 28, [.v false [.val (.int .u8 n)]] => some (ret1 (.st (vB (x_isLetI n))))
  | 29, [.v false [.val (.string s)], .fn 30] => some (ret1 (.st (vI (x_spanI x_isMoreI s 0))))
  | 29, [.v false [.val (.string s)], .fn 31] => some (ret1 (.st (vI (x_spanI x_isSpelI s 0))))
  | 37, [.v true [.val (.int .i64 k), .val (.string t), .val (.int .i64 w)], .v false [.val (.int .i64 n)]] => some (rTok (x_lgI t k) (x_lgS t) (x_lgI t w) (x_lgI t n) (x_lgE t))
  | _, _ => none
set_option maxHeartbeats 4000000 in
theorem pc_first (s : ByteArray) (hs : s.size < 4611686018427387904) (h0 : 0 < s.size) : PC Try.prog T 23 [.v false [vS s]] (rTok (tkK s 0) (tkT s 0) (tkW s 0) (tkN s 0) (tkE s 0)) [] := by
  refine pc_of tok Try.func23 rfl (by rfl) ?_
  obtain ⟨j, hj⟩ : ∃ j : J, j = std Try.prog T := ⟨_, rfl⟩
  have p1 := spanI_ge isMoreI s (i := 0) (by omega)
  have p2 := spanI_le isMoreI s (i := 0) (by omega) (by omega)
  have q1 := spanI_ge isSpelI (s.extract (Int.toNat 1) s.size) (i := 0) (by omega)
  have q2 := spanI_le isSpelI (s.extract (Int.toNat 1) s.size) (i := 0) (by omega) (by omega)
  have q3 := size_tail s (Int.toNat 1)
  generalize y_isLetI : @isLetI = x_isLetI at *
  generalize y_isMoreI : @isMoreI = x_isMoreI at *
  generalize y_spanI : @spanI = x_spanI at *
  generalize y_isSpelI : @isSpelI = x_isSpelI at *
  generalize y_lgI : @lgI = x_lgI at *
  generalize y_lgS : @lgS = x_lgS at *
  generalize y_lgE : @lgE = x_lgE at *
  generalize y_tkK : @tkK = x_tkK at *
  generalize y_tkT : @tkT = x_tkT at *
  generalize y_tkW : @tkW = x_tkW at *
  generalize y_tkN : @tkN = x_tkN at *
  generalize y_tkE : @tkE = x_tkE at *
  (repeat' first | (with_reducible refine tr_cut (fun h => ?_) (fun h => ?_) <;> (try simp (disch := omega) only [hj, std, cmpI, cmpB, satB, Bool.not_eq_true, Bool.not_eq_false, decide_eq_true_eq, decide_eq_false_iff_not, beq_iff_eq, bne_iff_ne, bne_eq_false_iff_eq, beq_eq_false_iff_ne, ne_eq, reduceCtorEq, not_true_eq_false, not_false_eq_true, add64, sub64] at h) <;> (try (exfalso; omega))) | (with_reducible refine tr_alt (fun h => ?_) ?_ <;> (try (exfalso; omega))) | (with_reducible refine tr_ob ?_ ?_) | (with_reducible refine tr_done ?_) | (refine aw_tr hj tok (book3 x_isLetI x_isMoreI x_spanI x_isSpelI x_lgI x_lgS x_lgE) (by cbv) ?_) | (refine aw_seq fun K hK => ?_) | (refine aw_tr1 hj tok (book3 x_isLetI x_isMoreI x_spanI x_isSpelI x_lgI x_lgS x_lgE) (by cbv) ?_) | (refine aw_condj (by cbv) (fun h => ?_) (fun h => ?_) <;> (try simp (disch := omega) only [hj, std, cmpI, cmpB, satB, Bool.not_eq_true, Bool.not_eq_false, decide_eq_true_eq, decide_eq_false_iff_not, beq_iff_eq, bne_iff_ne, bne_eq_false_iff_eq, beq_eq_false_iff_ne, ne_eq, reduceCtorEq, not_true_eq_false, not_false_eq_true, add64, sub64] at h) <;> (try (exfalso; omega))) | (refine aw_skip ?_) | (refine aw_block ?_) | (refine aw_exit ?_) | (refine aw_ret ⟨.inr rfl, ret_okj hj (by cbv) ?_ ?_⟩) | (refine aw_ret ?_) | (with_reducible refine th_n ?_) | (with_reducible refine th_r ?_) | (with_reducible refine th_x ?_) | (with_reducible refine blk_n ?_) | (with_reducible refine blk_r ?_) | (with_reducible refine blk_x ?_) | (with_reducible refine blk_y rfl ?_) | (refine ⟨.inr rfl, ret_okj hj (by cbv) ?_ ?_⟩) | (refine ⟨.inl rfl, ret_okj hj (by cbv) ?_ ?_⟩) | ((with_reducible refine ⟨(_, _, _, _, _, _, _), by cbv, ?_, ?_⟩)) | ((with_reducible refine ⟨(_, _, _, _, _, _), by cbv, ?_, ?_⟩)) | ((with_reducible refine ⟨(_, _, _, _, _), by cbv, ?_, ?_⟩)) | ((with_reducible refine ⟨(_, _, _, _), by cbv, ?_, ?_⟩)) | ((with_reducible refine ⟨(_, _, _), by cbv, ?_, ?_⟩)) | ((with_reducible refine ⟨(_, _), by cbv, ?_, ?_⟩)) | ((with_reducible refine ⟨_, by cbv, ?_, ?_⟩)) | (with_reducible apply_assumption -symm -exfalso only [*]))
  all_goals ((try subst y_isLetI); (try subst y_isMoreI); (try subst y_spanI); (try subst y_isSpelI); (try subst y_lgI); (try subst y_lgS); (try subst y_lgE); (try subst y_tkK); (try subst y_tkT); (try subst y_tkW); (try subst y_tkN); (try subst y_tkE))
  all_goals first | exact obl0 | ((repeat (refine obl1 (by first | (rw [hj]; exact c_letter _) | (rw [hj]; exact c_run hs c_goes) | (rw [hj]; exact c_run (tail_lt hs) c_spells) | (rw [hj]; exact c_long _ _ _ _) | (exact first_p (c := 58) (k := 3) (.inl ⟨rfl, rfl⟩) ‹_›) | (exact first_p (c := 124) (k := 4) (.inr (.inl ⟨rfl, rfl⟩)) ‹_›) | (exact first_p (c := 59) (k := 5) (.inr (.inr ⟨rfl, rfl⟩)) ‹_›) | (exact first_bad ‹_› ‹_› ‹_› ‹_› ‹_›) | ((simp only [hj, std]; exact first_let ‹_› ‹_› ‹_› ‹_›)) | ((simp (disch := omega) only [hj, std, add64]; exact first_q h0 ‹_› _ rfl (by omega) (by omega) ‹_›)) | ((refine first_qbad h0 ‹_› _ rfl ?_; omega)) | (simp (disch := omega) only [hj, std, cmpI, cmpB, satB, add64, sub64] <;> omega) | (simp (disch := omega) [hj, std, cmpI, cmpB, satB, add64, sub64] <;> omega) | (rw [Bool.eq_iff_iff]; simp (disch := omega) [hj, std, cmpI, cmpB, satB, add64, sub64] <;> omega) | omega) ?_)); exact obl0) | (refine rTok_of ?_ <;> first | (rw [hj]; exact c_letter _) | (rw [hj]; exact c_run hs c_goes) | (rw [hj]; exact c_run (tail_lt hs) c_spells) | (rw [hj]; exact c_long _ _ _ _) | (exact first_p (c := 58) (k := 3) (.inl ⟨rfl, rfl⟩) ‹_›) | (exact first_p (c := 124) (k := 4) (.inr (.inl ⟨rfl, rfl⟩)) ‹_›) | (exact first_p (c := 59) (k := 5) (.inr (.inr ⟨rfl, rfl⟩)) ‹_›) | (exact first_bad ‹_› ‹_› ‹_› ‹_› ‹_›) | ((simp only [hj, std]; exact first_let ‹_› ‹_› ‹_› ‹_›)) | ((simp (disch := omega) only [hj, std, add64]; exact first_q h0 ‹_› _ rfl (by omega) (by omega) ‹_›)) | ((refine first_qbad h0 ‹_› _ rfl ?_; omega)) | (simp (disch := omega) only [hj, std, cmpI, cmpB, satB, add64, sub64] <;> omega) | (simp (disch := omega) [hj, std, cmpI, cmpB, satB, add64, sub64] <;> omega) | (rw [Bool.eq_iff_iff]; simp (disch := omega) [hj, std, cmpI, cmpB, satB, add64, sub64] <;> omega) | omega) | (refine ret1_b ?_ <;> first | (rw [hj]; exact c_letter _) | (rw [hj]; exact c_run hs c_goes) | (rw [hj]; exact c_run (tail_lt hs) c_spells) | (rw [hj]; exact c_long _ _ _ _) | (exact first_p (c := 58) (k := 3) (.inl ⟨rfl, rfl⟩) ‹_›) | (exact first_p (c := 124) (k := 4) (.inr (.inl ⟨rfl, rfl⟩)) ‹_›) | (exact first_p (c := 59) (k := 5) (.inr (.inr ⟨rfl, rfl⟩)) ‹_›) | (exact first_bad ‹_› ‹_› ‹_› ‹_› ‹_›) | ((simp only [hj, std]; exact first_let ‹_› ‹_› ‹_› ‹_›)) | ((simp (disch := omega) only [hj, std, add64]; exact first_q h0 ‹_› _ rfl (by omega) (by omega) ‹_›)) | ((refine first_qbad h0 ‹_› _ rfl ?_; omega)) | (simp (disch := omega) only [hj, std, cmpI, cmpB, satB, add64, sub64] <;> omega) | (simp (disch := omega) [hj, std, cmpI, cmpB, satB, add64, sub64] <;> omega) | (rw [Bool.eq_iff_iff]; simp (disch := omega) [hj, std, cmpI, cmpB, satB, add64, sub64] <;> omega) | omega)
end Go.Proofs.Ytljnfejcdadjpaa.A

/- Lexing: next of the reference, layer 12. -/
set_option linter.unusedSimpArgs false
set_option linter.unusedVariables false
set_option maxRecDepth 100000
set_option maxHeartbeats 4000000
namespace Go.Proofs.Ytljnfejcdadjpaa.A
open Go
theorem c_more12 (n : Int) : (std Try.prog T).pc 26 [.v false [vU n]] (ret1 (.st (vB (isMoreI n)))) [] := ⟨enters Try.func26 (by kernel_rfl) (by kernel_rfl), pc_more12 n⟩
/-- what next gives, at once -/
def Nexts (s : ByteArray) (i k : Int) (t : ByteArray) (w n e : Int) : Prop := tkK s i = k ∧ tkT s i = t ∧ tkW s i = w ∧ tkN s i = n ∧ tkE s i = e
theorem nexts_of {s : ByteArray} {i k : Int} {t : ByteArray} {w : Int} {n : Nat} {e : Int} (h : tokAt s i.toNat = ((k, t, w), n, e)) : Nexts s i k t w n e := by
  refine ⟨?_, ?_, ?_, ?_, ?_⟩ <;> simp only [tkK, tkT, tkW, tkN, tkE] <;> rw [h]
theorem nexts_ofi {s : ByteArray} {i k : Int} {t : ByteArray} {w w' n' : Int} {n : Nat} {e : Int} (h : tokAt s i.toNat = ((k, t, w), n, e)) (h1 : w = w') (h2 : (n : Int) = n') : Nexts s i k t w' n' e := by
  subst h1; subst h2; exact nexts_of h
theorem nTok_of {s : ByteArray} {i k' : Int} {t' : ByteArray} {w' n' e' : Int} (h : Nexts s i k' t' w' n' e') :
    rTok (tkK s i) (tkT s i) (tkW s i) (tkN s i) (tkE s i) = ⟨true, [(true, [.st (.val (.int .i64 k')), .st (.val (.string t')), .st (.val (.int .i64 w'))]), (false, [.st (.val (.int .i64 n'))]), (false, [.st (.val (.int .i64 e'))])]⟩ :=
  rTok_eq h.1 h.2.1 h.2.2.1 h.2.2.2.1 h.2.2.2.2
theorem next_p {s : ByteArray} {i : Int} (h0 : 0 ≤ i) {c k : Nat} (hk : (c = 58 ∧ k = 3) ∨ (c = 124 ∧ k = 4) ∨ (c = 59 ∧ k = 5)) (h : (bt s i.toNat : Int) = c) : Nexts s i k ⟨#[UInt8.ofNat c]⟩ i (i + 1) 0 :=
  nexts_ofi (tok_p hk h) (by omega) (by omega)
theorem next_let {s : ByteArray} {i e : Int} (h0 : 0 ≤ i) (he : spanI isMoreI s i = e) (a : ¬ (bt s i.toNat : Int) = 58) (b : ¬ (bt s i.toNat : Int) = 124) (c : ¬ (bt s i.toNat : Int) = 59) (d : isLetI (bt s i.toNat) = true) (hb : ¬ e - i > 32) :
    Nexts s i 1 (s.extract i.toNat e.toNat) i e 0 := by
  have h := tok_let a b c d
  have := spanI_ge isMoreI s h0
  rw [he] at h this
  rw [if_neg (by omega)] at h
  exact nexts_ofi h (by omega) (by omega)
theorem next_long {s : ByteArray} {i e : Int} (h0 : 0 ≤ i) (he : spanI isMoreI s i = e) (a : ¬ (bt s i.toNat : Int) = 58) (b : ¬ (bt s i.toNat : Int) = 124) (c : ¬ (bt s i.toNat : Int) = 59) (d : isLetI (bt s i.toNat) = true) (hb : e - i > 32) :
    Nexts s i 0 ByteArray.empty 0 i 19 := by
  have h := tok_let a b c d
  rw [he, if_pos (by omega)] at h
  exact nexts_ofi h (by omega) (by omega)
theorem next_bad {s : ByteArray} {i : Int} (h0 : 0 ≤ i) (a : ¬ (bt s i.toNat : Int) = 58) (b : ¬ (bt s i.toNat : Int) = 124) (c : ¬ (bt s i.toNat : Int) = 59) (d : isLetI (bt s i.toNat) = false) (e : ¬ (bt s i.toNat : Int) = 39) : Nexts s i 0 ByteArray.empty 0 i 13 :=
  nexts_ofi (tok_bad a b c d e) (by omega) (by omega)
theorem next_q {s : ByteArray} {i e : Int} (h0 : 0 ≤ i) (he : spanI isSpelI s (i + 1) = e) (a : (bt s i.toNat : Int) = 39) (c1 : ¬ e ≥ s.size) (c2 : (bt s e.toNat : Int) = 39) (c3 : ¬ e = i + 1) (c4 : ¬ e - i - 1 > 32) :
    Nexts s i 2 (s.extract (i + 1).toNat e.toNat) i (e + 1) 0 := by
  have h := tok_q h0 a
  have := spanI_ge isSpelI s (i := i + 1) (by omega)
  rw [he] at h this
  rw [if_neg (by omega), if_neg (by omega), show i.toNat + 1 = (i + 1).toNat by omega] at h
  exact nexts_ofi h (by omega) (by omega)
theorem next_qlong {s : ByteArray} {i e : Int} (h0 : 0 ≤ i) (he : spanI isSpelI s (i + 1) = e) (a : (bt s i.toNat : Int) = 39) (c1 : ¬ e ≥ s.size) (c2 : (bt s e.toNat : Int) = 39) (c3 : ¬ e = i + 1) (c4 : e - i - 1 > 32) :
    Nexts s i 0 ByteArray.empty 0 i 19 := by
  have h := tok_q h0 a
  have := spanI_ge isSpelI s (i := i + 1) (by omega)
  rw [he] at h this
  rw [if_neg (by omega), if_pos (by omega)] at h
  exact nexts_ofi h (by omega) (by omega)
theorem next_qbad {s : ByteArray} {i e : Int} (h0 : 0 ≤ i) (he : spanI isSpelI s (i + 1) = e) (a : (bt s i.toNat : Int) = 39) (c : e ≥ s.size ∨ ¬ (bt s e.toNat : Int) = 39 ∨ e = i + 1) :
    Nexts s i 0 ByteArray.empty 0 i 13 := by
  have h := tok_q h0 a
  have := spanI_ge isSpelI s (i := i + 1) (by omega)
  rw [he] at h this
  rw [if_pos (by omega)] at h
  exact nexts_ofi h (by omega) (by omega)
set_option maxHeartbeats 4000000 in
theorem pc_next (s : ByteArray) (i : Int) (hs : s.size < 4611686018427387904) (h0 : 0 ≤ i) (h1 : i < s.size) : PC Try.prog T 24 [.v false [vS s], .v false [vI i]] (rTok (tkK s i) (tkT s i) (tkW s i) (tkN s i) (tkE s i)) [] := by
  refine pc_of tok Try.func24 rfl (by rfl) ?_
  obtain ⟨j, hj⟩ : ∃ j : J, j = std Try.prog T := ⟨_, rfl⟩
  generalize y_isLetI : @isLetI = x_isLetI at *
  generalize y_isMoreI : @isMoreI = x_isMoreI at *
  generalize y_spanI : @spanI = x_spanI at *
  generalize y_isSpelI : @isSpelI = x_isSpelI at *
  generalize y_tkK : @tkK = x_tkK at *
  generalize y_tkT : @tkT = x_tkT at *
  generalize y_tkW : @tkW = x_tkW at *
  generalize y_tkN : @tkN = x_tkN at *
  generalize y_tkE : @tkE = x_tkE at *
  (repeat' first | (with_reducible refine tr_cut (fun h => ?_) (fun h => ?_) <;> (try simp (disch := omega) only [hj, std, cmpI, cmpB, satB, Bool.not_eq_true, Bool.not_eq_false, decide_eq_true_eq, decide_eq_false_iff_not, beq_iff_eq, bne_iff_ne, bne_eq_false_iff_eq, beq_eq_false_iff_ne, ne_eq, reduceCtorEq, not_true_eq_false, not_false_eq_true, add64, sub64] at h) <;> (try (exfalso; omega))) | (with_reducible refine tr_alt (fun h => ?_) ?_ <;> (try (exfalso; omega))) | (with_reducible refine tr_ob ?_ ?_) | (with_reducible refine tr_done ?_) | (refine aw_tr hj tok (book1 x_isLetI x_isMoreI) (by cbv) ?_) | (refine aw_seq fun K hK => ?_) | (refine aw_tr1 hj tok (book1 x_isLetI x_isMoreI) (by cbv) ?_) | (refine aw_condj (by cbv) (fun h => ?_) (fun h => ?_) <;> (try simp (disch := omega) only [hj, std, cmpI, cmpB, satB, Bool.not_eq_true, Bool.not_eq_false, decide_eq_true_eq, decide_eq_false_iff_not, beq_iff_eq, bne_iff_ne, bne_eq_false_iff_eq, beq_eq_false_iff_ne, ne_eq, reduceCtorEq, not_true_eq_false, not_false_eq_true, add64, sub64] at h) <;> (try (exfalso; omega))) | (refine aw_skip ?_) | (refine aw_block ?_) | (refine aw_exit ?_) | (refine aw_ret ⟨.inr rfl, ret_okj hj (by cbv) ?_ ?_⟩) | (refine aw_ret ?_) | (with_reducible refine th_n ?_) | (with_reducible refine th_r ?_) | (with_reducible refine th_x ?_) | (with_reducible refine blk_n ?_) | (with_reducible refine blk_r ?_) | (with_reducible refine blk_x ?_) | (with_reducible refine blk_y rfl ?_) | (refine ⟨.inr rfl, ret_okj hj (by cbv) ?_ ?_⟩) | (refine ⟨.inl rfl, ret_okj hj (by cbv) ?_ ?_⟩) | ((with_reducible refine ⟨(_, _, _, _, _, _, _), by cbv, ?_, ?_⟩)) | ((with_reducible refine ⟨(_, _, _, _, _, _), by cbv, ?_, ?_⟩)) | ((with_reducible refine ⟨(_, _, _, _, _), by cbv, ?_, ?_⟩)) | ((with_reducible refine ⟨(_, _, _, _), by cbv, ?_, ?_⟩)) | ((with_reducible refine ⟨(_, _, _), by cbv, ?_, ?_⟩)) | ((with_reducible refine ⟨(_, _), by cbv, ?_, ?_⟩)) | ((with_reducible refine ⟨_, by cbv, ?_, ?_⟩)) | (with_reducible apply_assumption -symm -exfalso only [*]))
  all_goals ((try subst y_isLetI); (try subst y_isMoreI); (try subst y_spanI); (try subst y_isSpelI); (try subst y_tkK); (try subst y_tkT); (try subst y_tkW); (try subst y_tkN); (try subst y_tkE))
  all_goals try first | exact obl0 | ((repeat (refine obl1 (by first | (rw [hj]; exact c_letter12 _) | ((have h := ‹(bt s i.toNat : Int) = 58›; simp (disch := omega) only [hj, std, add64]; exact next_p h0 (c := 58) (k := 3) (.inl ⟨rfl, rfl⟩) h)) | ((have h := ‹(bt s i.toNat : Int) = 124›; simp (disch := omega) only [hj, std, add64]; exact next_p h0 (c := 124) (k := 4) (.inr (.inl ⟨rfl, rfl⟩)) h)) | ((have h := ‹(bt s i.toNat : Int) = 59›; simp (disch := omega) only [hj, std, add64]; exact next_p h0 (c := 59) (k := 5) (.inr (.inr ⟨rfl, rfl⟩)) h)) | (exact next_bad h0 ‹_› ‹_› ‹_› ‹_› ‹_›) | (simp (disch := omega) only [hj, std, cmpI, cmpB, satB, add64, sub64] <;> omega) | (simp (disch := omega) [hj, std, cmpI, cmpB, satB, add64, sub64] <;> omega) | (rw [Bool.eq_iff_iff]; simp (disch := omega) [hj, std, cmpI, cmpB, satB, add64, sub64] <;> omega) | omega) ?_)); exact obl0) | (refine nTok_of ?_ <;> first | (rw [hj]; exact c_letter12 _) | ((have h := ‹(bt s i.toNat : Int) = 58›; simp (disch := omega) only [hj, std, add64]; exact next_p h0 (c := 58) (k := 3) (.inl ⟨rfl, rfl⟩) h)) | ((have h := ‹(bt s i.toNat : Int) = 124›; simp (disch := omega) only [hj, std, add64]; exact next_p h0 (c := 124) (k := 4) (.inr (.inl ⟨rfl, rfl⟩)) h)) | ((have h := ‹(bt s i.toNat : Int) = 59›; simp (disch := omega) only [hj, std, add64]; exact next_p h0 (c := 59) (k := 5) (.inr (.inr ⟨rfl, rfl⟩)) h)) | (exact next_bad h0 ‹_› ‹_› ‹_› ‹_› ‹_›) | (simp (disch := omega) only [hj, std, cmpI, cmpB, satB, add64, sub64] <;> omega) | (simp (disch := omega) [hj, std, cmpI, cmpB, satB, add64, sub64] <;> omega) | (rw [Bool.eq_iff_iff]; simp (disch := omega) [hj, std, cmpI, cmpB, satB, add64, sub64] <;> omega) | omega) | (refine ret1_b ?_ <;> first | (rw [hj]; exact c_letter12 _) | ((have h := ‹(bt s i.toNat : Int) = 58›; simp (disch := omega) only [hj, std, add64]; exact next_p h0 (c := 58) (k := 3) (.inl ⟨rfl, rfl⟩) h)) | ((have h := ‹(bt s i.toNat : Int) = 124›; simp (disch := omega) only [hj, std, add64]; exact next_p h0 (c := 124) (k := 4) (.inr (.inl ⟨rfl, rfl⟩)) h)) | ((have h := ‹(bt s i.toNat : Int) = 59›; simp (disch := omega) only [hj, std, add64]; exact next_p h0 (c := 59) (k := 5) (.inr (.inr ⟨rfl, rfl⟩)) h)) | (exact next_bad h0 ‹_› ‹_› ‹_› ‹_› ‹_›) | (simp (disch := omega) only [hj, std, cmpI, cmpB, satB, add64, sub64] <;> omega) | (simp (disch := omega) [hj, std, cmpI, cmpB, satB, add64, sub64] <;> omega) | (rw [Bool.eq_iff_iff]; simp (disch := omega) [hj, std, cmpI, cmpB, satB, add64, sub64] <;> omega) | omega)
  · refine aw_lpj hj [(0, .keep), (1, .keep), (4, .keep), (8, .keep)] [4] (fun e : Int => stOf 129 [(0, .one (.c (vS s))), (1, .one (.c (vI i))), (4, .one (.ptr 4 0)), (8, .one (.c (vI e)))] [(4, .box [.st (vI 0), .st (vS ByteArray.empty), .st (vI 0)])])
      (fun e => s.size - e.toNat) (fun e => i ≤ e ∧ e ≤ s.size ∧ spanI isMoreI s e = spanI isMoreI s i) i (by generalize @isLetI = x_isLetI; generalize @isMoreI = x_isMoreI; generalize @spanI = x_spanI; generalize @isSpelI = x_isSpelI; generalize @tkK = x_tkK; generalize @tkT = x_tkT; generalize @tkW = x_tkW; generalize @tkN = x_tkN; generalize @tkE = x_tkE; cbv) ⟨by omega, by omega, rfl⟩ fun e ⟨i1, i2, i3⟩ => ?_
    generalize y_isLetI : @isLetI = x_isLetI at *
    generalize y_isMoreI : @isMoreI = x_isMoreI at *
    generalize y_spanI : @spanI = x_spanI at *
    generalize y_isSpelI : @isSpelI = x_isSpelI at *
    generalize y_tkK : @tkK = x_tkK at *
    generalize y_tkT : @tkT = x_tkT at *
    generalize y_tkW : @tkW = x_tkW at *
    generalize y_tkN : @tkN = x_tkN at *
    generalize y_tkE : @tkE = x_tkE at *
    (repeat' first | (with_reducible refine tr_cut (fun h => ?_) (fun h => ?_) <;> (try simp (disch := omega) only [hj, std, cmpI, cmpB, satB, Bool.not_eq_true, Bool.not_eq_false, decide_eq_true_eq, decide_eq_false_iff_not, beq_iff_eq, bne_iff_ne, bne_eq_false_iff_eq, beq_eq_false_iff_ne, ne_eq, reduceCtorEq, not_true_eq_false, not_false_eq_true, add64, sub64] at h) <;> (try (exfalso; omega))) | (with_reducible refine tr_alt (fun h => ?_) ?_ <;> (try (exfalso; omega))) | (with_reducible refine tr_ob ?_ ?_) | (with_reducible refine tr_done ?_) | (refine aw_tr hj tok (book1 x_isLetI x_isMoreI) (by cbv) ?_) | (refine aw_seq fun K hK => ?_) | (refine aw_tr1 hj tok (book1 x_isLetI x_isMoreI) (by cbv) ?_) | (refine aw_condj (by cbv) (fun h => ?_) (fun h => ?_) <;> (try simp (disch := omega) only [hj, std, cmpI, cmpB, satB, Bool.not_eq_true, Bool.not_eq_false, decide_eq_true_eq, decide_eq_false_iff_not, beq_iff_eq, bne_iff_ne, bne_eq_false_iff_eq, beq_eq_false_iff_ne, ne_eq, reduceCtorEq, not_true_eq_false, not_false_eq_true, add64, sub64] at h) <;> (try (exfalso; omega))) | (refine aw_skip ?_) | (refine aw_block ?_) | (refine aw_exit ?_) | (refine aw_ret ⟨.inr rfl, ret_okj hj (by cbv) ?_ ?_⟩) | (refine aw_ret ?_) | (with_reducible refine th_n ?_) | (with_reducible refine th_r ?_) | (with_reducible refine th_x ?_) | (with_reducible refine blk_n ?_) | (with_reducible refine blk_r ?_) | (with_reducible refine blk_x ?_) | (with_reducible refine blk_y rfl ?_) | (refine ⟨.inr rfl, ret_okj hj (by cbv) ?_ ?_⟩) | (refine ⟨.inl rfl, ret_okj hj (by cbv) ?_ ?_⟩) | ((with_reducible refine ⟨(_, _, _, _, _, _, _), by cbv, ?_, ?_⟩)) | ((with_reducible refine ⟨(_, _, _, _, _, _), by cbv, ?_, ?_⟩)) | ((with_reducible refine ⟨(_, _, _, _, _), by cbv, ?_, ?_⟩)) | ((with_reducible refine ⟨(_, _, _, _), by cbv, ?_, ?_⟩)) | ((with_reducible refine ⟨(_, _, _), by cbv, ?_, ?_⟩)) | ((with_reducible refine ⟨(_, _), by cbv, ?_, ?_⟩)) | ((with_reducible refine ⟨_, by cbv, ?_, ?_⟩)) | (with_reducible apply_assumption -symm -exfalso only [*]))
    all_goals ((try subst y_isLetI); (try subst y_isMoreI); (try subst y_spanI); (try subst y_isSpelI); (try subst y_tkK); (try subst y_tkT); (try subst y_tkW); (try subst y_tkN); (try subst y_tkE))
    all_goals first | exact obl0 | ((repeat (refine obl1 (by first | (rw [hj]; exact c_more12 _) | ((have he : spanI isMoreI s i = e := (by rw [← i3]; first | exact spanI_stop (by omega) ‹_› | exact spanI_end (by omega) ‹_›); first | exact next_long h0 he ‹_› ‹_› ‹_› ‹_› ‹_› | (simp only [hj, std]; exact next_let h0 he ‹_› ‹_› ‹_› ‹_› ‹_›))) | ((simp (disch := omega) only [hj, std, add64]; rw [spanI_step (by omega) ‹_› ‹_›]; exact i3)) | (simp (disch := omega) only [hj, std, cmpI, cmpB, satB, add64, sub64] <;> omega) | (simp (disch := omega) [hj, std, cmpI, cmpB, satB, add64, sub64] <;> omega) | (rw [Bool.eq_iff_iff]; simp (disch := omega) [hj, std, cmpI, cmpB, satB, add64, sub64] <;> omega) | omega) ?_)); exact obl0) | (refine nTok_of ?_ <;> first | (rw [hj]; exact c_more12 _) | ((have he : spanI isMoreI s i = e := (by rw [← i3]; first | exact spanI_stop (by omega) ‹_› | exact spanI_end (by omega) ‹_›); first | exact next_long h0 he ‹_› ‹_› ‹_› ‹_› ‹_› | (simp only [hj, std]; exact next_let h0 he ‹_› ‹_› ‹_› ‹_› ‹_›))) | ((simp (disch := omega) only [hj, std, add64]; rw [spanI_step (by omega) ‹_› ‹_›]; exact i3)) | (simp (disch := omega) only [hj, std, cmpI, cmpB, satB, add64, sub64] <;> omega) | (simp (disch := omega) [hj, std, cmpI, cmpB, satB, add64, sub64] <;> omega) | (rw [Bool.eq_iff_iff]; simp (disch := omega) [hj, std, cmpI, cmpB, satB, add64, sub64] <;> omega) | omega) | (and_intros <;> first | (rw [hj]; exact c_more12 _) | ((have he : spanI isMoreI s i = e := (by rw [← i3]; first | exact spanI_stop (by omega) ‹_› | exact spanI_end (by omega) ‹_›); first | exact next_long h0 he ‹_› ‹_› ‹_› ‹_› ‹_› | (simp only [hj, std]; exact next_let h0 he ‹_› ‹_› ‹_› ‹_› ‹_›))) | ((simp (disch := omega) only [hj, std, add64]; rw [spanI_step (by omega) ‹_› ‹_›]; exact i3)) | (simp (disch := omega) only [hj, std, cmpI, cmpB, satB, add64, sub64] <;> omega) | (simp (disch := omega) [hj, std, cmpI, cmpB, satB, add64, sub64] <;> omega) | (rw [Bool.eq_iff_iff]; simp (disch := omega) [hj, std, cmpI, cmpB, satB, add64, sub64] <;> omega) | omega) | (refine ret1_b ?_ <;> first | (rw [hj]; exact c_more12 _) | ((have he : spanI isMoreI s i = e := (by rw [← i3]; first | exact spanI_stop (by omega) ‹_› | exact spanI_end (by omega) ‹_›); first | exact next_long h0 he ‹_› ‹_› ‹_› ‹_› ‹_› | (simp only [hj, std]; exact next_let h0 he ‹_› ‹_› ‹_› ‹_› ‹_›))) | ((simp (disch := omega) only [hj, std, add64]; rw [spanI_step (by omega) ‹_› ‹_›]; exact i3)) | (simp (disch := omega) only [hj, std, cmpI, cmpB, satB, add64, sub64] <;> omega) | (simp (disch := omega) [hj, std, cmpI, cmpB, satB, add64, sub64] <;> omega) | (rw [Bool.eq_iff_iff]; simp (disch := omega) [hj, std, cmpI, cmpB, satB, add64, sub64] <;> omega) | omega)
  · have ha : j.arith .add .i64 i 1 = i + 1 := by rw [hj]; exact add64 (by omega) (by omega)
    refine aw_lpj hj [(0, .keep), (1, .keep), (4, .keep), (9, .keep)] [4] (fun e : Int => stOf 129 [(0, .one (.c (vS s))), (1, .one (.c (vI i))), (4, .one (.ptr 4 0)), (9, .one (.c (vI e)))] [(4, .box [.st (vI 0), .st (vS ByteArray.empty), .st (vI 0)])])
      (fun e => s.size - e.toNat) (fun e => i + 1 ≤ e ∧ e ≤ s.size ∧ spanI isSpelI s e = spanI isSpelI s (i + 1)) (j.arith .add .i64 i 1) (by generalize @isLetI = x_isLetI; generalize @isMoreI = x_isMoreI; generalize @spanI = x_spanI; generalize @isSpelI = x_isSpelI; generalize @tkK = x_tkK; generalize @tkT = x_tkT; generalize @tkW = x_tkW; generalize @tkN = x_tkN; generalize @tkE = x_tkE; cbv) ⟨by omega, by omega, by rw [ha]⟩ fun e ⟨i1, i2, i3⟩ => ?_
    generalize y_isLetI : @isLetI = x_isLetI at *
    generalize y_isMoreI : @isMoreI = x_isMoreI at *
    generalize y_spanI : @spanI = x_spanI at *
    generalize y_isSpelI : @isSpelI = x_isSpelI at *
    generalize y_tkK : @tkK = x_tkK at *
    generalize y_tkT : @tkT = x_tkT at *
    generalize y_tkW : @tkW = x_tkW at *
    generalize y_tkN : @tkN = x_tkN at *
    generalize y_tkE : @tkE = x_tkE at *
    (repeat' first | (with_reducible refine tr_cut (fun h => ?_) (fun h => ?_) <;> (try simp (disch := omega) only [hj, std, cmpI, cmpB, satB, Bool.not_eq_true, Bool.not_eq_false, decide_eq_true_eq, decide_eq_false_iff_not, beq_iff_eq, bne_iff_ne, bne_eq_false_iff_eq, beq_eq_false_iff_ne, ne_eq, reduceCtorEq, not_true_eq_false, not_false_eq_true, add64, sub64] at h) <;> (try (exfalso; omega))) | (with_reducible refine tr_alt (fun h => ?_) ?_ <;> (try (exfalso; omega))) | (with_reducible refine tr_ob ?_ ?_) | (with_reducible refine tr_done ?_) | (refine aw_tr hj tok (book1 x_isLetI x_isMoreI) (by cbv) ?_) | (refine aw_seq fun K hK => ?_) | (refine aw_tr1 hj tok (book1 x_isLetI x_isMoreI) (by cbv) ?_) | (refine aw_condj (by cbv) (fun h => ?_) (fun h => ?_) <;> (try simp (disch := omega) only [hj, std, cmpI, cmpB, satB, Bool.not_eq_true, Bool.not_eq_false, decide_eq_true_eq, decide_eq_false_iff_not, beq_iff_eq, bne_iff_ne, bne_eq_false_iff_eq, beq_eq_false_iff_ne, ne_eq, reduceCtorEq, not_true_eq_false, not_false_eq_true, add64, sub64] at h) <;> (try (exfalso; omega))) | (refine aw_skip ?_) | (refine aw_block ?_) | (refine aw_exit ?_) | (refine aw_ret ⟨.inr rfl, ret_okj hj (by cbv) ?_ ?_⟩) | (refine aw_ret ?_) | (with_reducible refine th_n ?_) | (with_reducible refine th_r ?_) | (with_reducible refine th_x ?_) | (with_reducible refine blk_n ?_) | (with_reducible refine blk_r ?_) | (with_reducible refine blk_x ?_) | (with_reducible refine blk_y rfl ?_) | (refine ⟨.inr rfl, ret_okj hj (by cbv) ?_ ?_⟩) | (refine ⟨.inl rfl, ret_okj hj (by cbv) ?_ ?_⟩) | ((with_reducible refine ⟨(_, _, _, _, _, _, _), by cbv, ?_, ?_⟩)) | ((with_reducible refine ⟨(_, _, _, _, _, _), by cbv, ?_, ?_⟩)) | ((with_reducible refine ⟨(_, _, _, _, _), by cbv, ?_, ?_⟩)) | ((with_reducible refine ⟨(_, _, _, _), by cbv, ?_, ?_⟩)) | ((with_reducible refine ⟨(_, _, _), by cbv, ?_, ?_⟩)) | ((with_reducible refine ⟨(_, _), by cbv, ?_, ?_⟩)) | ((with_reducible refine ⟨_, by cbv, ?_, ?_⟩)) | (with_reducible apply_assumption -symm -exfalso only [*]))
    all_goals ((try subst y_isLetI); (try subst y_isMoreI); (try subst y_spanI); (try subst y_isSpelI); (try subst y_tkK); (try subst y_tkT); (try subst y_tkW); (try subst y_tkN); (try subst y_tkE))
    all_goals first | exact obl0 | ((repeat (refine obl1 (by first | ((have he : spanI isSpelI s (i + 1) = e := (by rw [← i3]; first | exact spanI_end (by omega) ‹_› | exact spanI_stop (by omega) (by simp only [isSpelI]; exact decide_eq_false (by omega))); first | exact next_qbad h0 he ‹_› (by omega) | (simp (disch := omega) only [hj, std, add64]; exact next_q h0 he ‹_› (by omega) (by omega) (by omega) (by omega)) | exact next_qlong h0 he ‹_› (by omega) (by omega) (by omega) (by omega))) | ((simp (disch := omega) only [hj, std, add64]; rw [spanI_step (by omega) ‹_› (by simp only [isSpelI]; exact decide_eq_true (by omega))]; exact i3)) | (simp (disch := omega) only [hj, std, cmpI, cmpB, satB, add64, sub64] <;> omega) | (simp (disch := omega) [hj, std, cmpI, cmpB, satB, add64, sub64] <;> omega) | (rw [Bool.eq_iff_iff]; simp (disch := omega) [hj, std, cmpI, cmpB, satB, add64, sub64] <;> omega) | omega) ?_)); exact obl0) | (refine nTok_of ?_ <;> first | ((have he : spanI isSpelI s (i + 1) = e := (by rw [← i3]; first | exact spanI_end (by omega) ‹_› | exact spanI_stop (by omega) (by simp only [isSpelI]; exact decide_eq_false (by omega))); first | exact next_qbad h0 he ‹_› (by omega) | (simp (disch := omega) only [hj, std, add64]; exact next_q h0 he ‹_› (by omega) (by omega) (by omega) (by omega)) | exact next_qlong h0 he ‹_› (by omega) (by omega) (by omega) (by omega))) | ((simp (disch := omega) only [hj, std, add64]; rw [spanI_step (by omega) ‹_› (by simp only [isSpelI]; exact decide_eq_true (by omega))]; exact i3)) | (simp (disch := omega) only [hj, std, cmpI, cmpB, satB, add64, sub64] <;> omega) | (simp (disch := omega) [hj, std, cmpI, cmpB, satB, add64, sub64] <;> omega) | (rw [Bool.eq_iff_iff]; simp (disch := omega) [hj, std, cmpI, cmpB, satB, add64, sub64] <;> omega) | omega) | (and_intros <;> first | ((have he : spanI isSpelI s (i + 1) = e := (by rw [← i3]; first | exact spanI_end (by omega) ‹_› | exact spanI_stop (by omega) (by simp only [isSpelI]; exact decide_eq_false (by omega))); first | exact next_qbad h0 he ‹_› (by omega) | (simp (disch := omega) only [hj, std, add64]; exact next_q h0 he ‹_› (by omega) (by omega) (by omega) (by omega)) | exact next_qlong h0 he ‹_› (by omega) (by omega) (by omega) (by omega))) | ((simp (disch := omega) only [hj, std, add64]; rw [spanI_step (by omega) ‹_› (by simp only [isSpelI]; exact decide_eq_true (by omega))]; exact i3)) | (simp (disch := omega) only [hj, std, cmpI, cmpB, satB, add64, sub64] <;> omega) | (simp (disch := omega) [hj, std, cmpI, cmpB, satB, add64, sub64] <;> omega) | (rw [Bool.eq_iff_iff]; simp (disch := omega) [hj, std, cmpI, cmpB, satB, add64, sub64] <;> omega) | omega) | (refine ret1_b ?_ <;> first | ((have he : spanI isSpelI s (i + 1) = e := (by rw [← i3]; first | exact spanI_end (by omega) ‹_› | exact spanI_stop (by omega) (by simp only [isSpelI]; exact decide_eq_false (by omega))); first | exact next_qbad h0 he ‹_› (by omega) | (simp (disch := omega) only [hj, std, add64]; exact next_q h0 he ‹_› (by omega) (by omega) (by omega) (by omega)) | exact next_qlong h0 he ‹_› (by omega) (by omega) (by omega) (by omega))) | ((simp (disch := omega) only [hj, std, add64]; rw [spanI_step (by omega) ‹_› (by simp only [isSpelI]; exact decide_eq_true (by omega))]; exact i3)) | (simp (disch := omega) only [hj, std, cmpI, cmpB, satB, add64, sub64] <;> omega) | (simp (disch := omega) [hj, std, cmpI, cmpB, satB, add64, sub64] <;> omega) | (rw [Bool.eq_iff_iff]; simp (disch := omega) [hj, std, cmpI, cmpB, satB, add64, sub64] <;> omega) | omega)
end Go.Proofs.Ytljnfejcdadjpaa.A
