/- Lexing: what the functions of the reference, layer 12, give. -/
import Derived.Test.YtljnfejcdadjpaaTt
import Derived.Test.YtljnfejcdadjpaaAm29
import Derived.Test.YtljnfejcdadjpaaLx1
set_option linter.unusedSimpArgs false
set_option linter.unusedVariables false
set_option maxRecDepth 100000
set_option maxHeartbeats 4000000
namespace Go.Proofs.Ytljnfejcdadjpaa.A
open Go
def isLetI (c : Int) : Bool := decide ((97 ≤ c ∧ c ≤ 122) ∨ (65 ≤ c ∧ c ≤ 90))
def isMoreI (c : Int) : Bool := isLetI c || decide ((48 ≤ c ∧ c ≤ 57) ∨ c = 95)
theorem ret1_b {a b : Bool} (h : a = b) : ret1 (.st (vB a)) = ⟨false, [(false, [.st (.val (.bool b))])]⟩ := by rw [h]; rfl

def book0 : Book := fun _ _ => none
theorem e_letter12 : Enters Try.prog 25 := enters Try.func25 (by kernel_rfl) (by kernel_rfl)
theorem pc_letter12 (n : Int) : PC Try.prog T 25 [.v false [vU n]] (ret1 (.st (vB (isLetI n)))) [] := by
  refine pc_of tok Try.func25 rfl (by rfl) ?_
  obtain ⟨j, hj⟩ : ∃ j : J, j = std Try.prog T := ⟨_, rfl⟩
  generalize y_isLetI : @isLetI = x_isLetI at *
  (repeat' first | (with_reducible refine tr_cut (fun h => ?_) (fun h => ?_) <;> (try simp (disch := omega) only [hj, std, cmpI, cmpB, satB, Bool.not_eq_true, Bool.not_eq_false, decide_eq_true_eq, decide_eq_false_iff_not, beq_iff_eq, bne_iff_ne, bne_eq_false_iff_eq, beq_eq_false_iff_ne, ne_eq, reduceCtorEq, not_true_eq_false, not_false_eq_true, add64, sub64] at h) <;> (try (exfalso; omega))) | (with_reducible refine tr_alt (fun h => ?_) ?_ <;> (try (exfalso; omega))) | (with_reducible refine tr_ob ?_ ?_) | (with_reducible refine tr_done ?_) | (refine aw_tr hj tok book0 (by cbv) ?_) | (refine aw_seq fun K hK => ?_) | (refine aw_tr1 hj tok book0 (by cbv) ?_) | (refine aw_condj (by cbv) (fun h => ?_) (fun h => ?_) <;> (try simp (disch := omega) only [hj, std, cmpI, cmpB, satB, Bool.not_eq_true, Bool.not_eq_false, decide_eq_true_eq, decide_eq_false_iff_not, beq_iff_eq, bne_iff_ne, bne_eq_false_iff_eq, beq_eq_false_iff_ne, ne_eq, reduceCtorEq, not_true_eq_false, not_false_eq_true, add64, sub64] at h) <;> (try (exfalso; omega))) | (refine aw_skip ?_) | (refine aw_block ?_) | (refine aw_exit ?_) | (refine aw_ret ⟨.inr rfl, ret_okj hj (by cbv) ?_ ?_⟩) | (refine aw_ret ?_) | (with_reducible refine th_n ?_) | (with_reducible refine th_r ?_) | (with_reducible refine th_x ?_) | (with_reducible refine blk_n ?_) | (with_reducible refine blk_r ?_) | (with_reducible refine blk_x ?_) | (with_reducible refine blk_y rfl ?_) | (refine ⟨.inr rfl, ret_okj hj (by cbv) ?_ ?_⟩) | (refine ⟨.inl rfl, ret_okj hj (by cbv) ?_ ?_⟩) | ((with_reducible refine ⟨(_, _, _, _, _), by cbv, ?_, ?_⟩)) | ((with_reducible refine ⟨(_, _, _, _), by cbv, ?_, ?_⟩)) | ((with_reducible refine ⟨(_, _, _), by cbv, ?_, ?_⟩)) | ((with_reducible refine ⟨(_, _), by cbv, ?_, ?_⟩)) | ((with_reducible refine ⟨_, by cbv, ?_, ?_⟩)) | (with_reducible apply_assumption -symm -exfalso only [*]))
  all_goals ((try subst y_isLetI))
  all_goals first | exact obl0 | ((repeat (refine obl1 (by first | (simp (disch := omega) only [hj, std, cmpI, cmpB, satB, add64, sub64, isLetI] <;> omega) | (simp (disch := omega) [hj, std, cmpI, cmpB, satB, add64, sub64, isLetI] <;> omega) | (rw [Bool.eq_iff_iff]; simp (disch := omega) [hj, std, cmpI, cmpB, satB, add64, sub64, isLetI] <;> omega) | omega) ?_)); exact obl0) | (refine ret1_b ?_ <;> first | (simp (disch := omega) only [hj, std, cmpI, cmpB, satB, add64, sub64, isLetI] <;> omega) | (simp (disch := omega) [hj, std, cmpI, cmpB, satB, add64, sub64, isLetI] <;> omega) | (rw [Bool.eq_iff_iff]; simp (disch := omega) [hj, std, cmpI, cmpB, satB, add64, sub64, isLetI] <;> omega) | omega)
theorem c_letter12 (n : Int) : (std Try.prog T).pc 25 [.v false [vU n]] (ret1 (.st (vB (isLetI n)))) [] := ⟨e_letter12, pc_letter12 n⟩
def book1 (x_isLetI : Int → Bool) (x_isMoreI : Int → Bool) : Book := fun f xs => match f, xs with
  | 25, [.v false [.val (.int .u8 n)]] => some (ret1 (.st (vB (x_isLetI n))))
  | 28, [.v false [.val (.int .u8 n)]] => some (ret1 (.st (vB (x_isLetI n))))
  | 26, [.v false [.val (.int .u8 n)]] => some (ret1 (.st (vB (x_isMoreI n))))
  | 30, [.v false [.val (.int .u8 n)]] => some (ret1 (.st (vB (x_isMoreI n))))
  | _, _ => none
theorem pc_more12 (n : Int) : PC Try.prog T 26 [.v false [vU n]] (ret1 (.st (vB (isMoreI n)))) [] := by
  refine pc_of tok Try.func26 rfl (by rfl) ?_
  obtain ⟨j, hj⟩ : ∃ j : J, j = std Try.prog T := ⟨_, rfl⟩
  generalize y_isLetI : @isLetI = x_isLetI at *
  generalize y_isMoreI : @isMoreI = x_isMoreI at *
  (repeat' first | (with_reducible refine tr_cut (fun h => ?_) (fun h => ?_) <;> (try simp (disch := omega) only [hj, std, cmpI, cmpB, satB, Bool.not_eq_true, Bool.not_eq_false, decide_eq_true_eq, decide_eq_false_iff_not, beq_iff_eq, bne_iff_ne, bne_eq_false_iff_eq, beq_eq_false_iff_ne, ne_eq, reduceCtorEq, not_true_eq_false, not_false_eq_true, add64, sub64] at h) <;> (try (exfalso; omega))) | (with_reducible refine tr_alt (fun h => ?_) ?_ <;> (try (exfalso; omega))) | (with_reducible refine tr_ob ?_ ?_) | (with_reducible refine tr_done ?_) | (refine aw_tr hj tok (book1 x_isLetI x_isMoreI) (by cbv) ?_) | (refine aw_seq fun K hK => ?_) | (refine aw_tr1 hj tok (book1 x_isLetI x_isMoreI) (by cbv) ?_) | (refine aw_condj (by cbv) (fun h => ?_) (fun h => ?_) <;> (try simp (disch := omega) only [hj, std, cmpI, cmpB, satB, Bool.not_eq_true, Bool.not_eq_false, decide_eq_true_eq, decide_eq_false_iff_not, beq_iff_eq, bne_iff_ne, bne_eq_false_iff_eq, beq_eq_false_iff_ne, ne_eq, reduceCtorEq, not_true_eq_false, not_false_eq_true, add64, sub64] at h) <;> (try (exfalso; omega))) | (refine aw_skip ?_) | (refine aw_block ?_) | (refine aw_exit ?_) | (refine aw_ret ⟨.inr rfl, ret_okj hj (by cbv) ?_ ?_⟩) | (refine aw_ret ?_) | (with_reducible refine th_n ?_) | (with_reducible refine th_r ?_) | (with_reducible refine th_x ?_) | (with_reducible refine blk_n ?_) | (with_reducible refine blk_r ?_) | (with_reducible refine blk_x ?_) | (with_reducible refine blk_y rfl ?_) | (refine ⟨.inr rfl, ret_okj hj (by cbv) ?_ ?_⟩) | (refine ⟨.inl rfl, ret_okj hj (by cbv) ?_ ?_⟩) | ((with_reducible refine ⟨(_, _, _, _, _), by cbv, ?_, ?_⟩)) | ((with_reducible refine ⟨(_, _, _, _), by cbv, ?_, ?_⟩)) | ((with_reducible refine ⟨(_, _, _), by cbv, ?_, ?_⟩)) | ((with_reducible refine ⟨(_, _), by cbv, ?_, ?_⟩)) | ((with_reducible refine ⟨_, by cbv, ?_, ?_⟩)) | (with_reducible apply_assumption -symm -exfalso only [*]))
  all_goals ((try subst y_isLetI); (try subst y_isMoreI))
  all_goals first | exact obl0 | ((repeat (refine obl1 (by first | (rw [hj]; exact c_letter12 _) | (simp (disch := omega) only [hj, std, cmpI, cmpB, satB, add64, sub64, isMoreI, *] <;> omega) | (simp (disch := omega) [hj, std, cmpI, cmpB, satB, add64, sub64, isMoreI, *] <;> omega) | (rw [Bool.eq_iff_iff]; simp (disch := omega) [hj, std, cmpI, cmpB, satB, add64, sub64, isMoreI, *] <;> omega) | omega) ?_)); exact obl0) | (refine ret1_b ?_ <;> first | (rw [hj]; exact c_letter12 _) | (simp (disch := omega) only [hj, std, cmpI, cmpB, satB, add64, sub64, isMoreI, *] <;> omega) | (simp (disch := omega) [hj, std, cmpI, cmpB, satB, add64, sub64, isMoreI, *] <;> omega) | (rw [Bool.eq_iff_iff]; simp (disch := omega) [hj, std, cmpI, cmpB, satB, add64, sub64, isMoreI, *] <;> omega) | omega)
end Go.Proofs.Ytljnfejcdadjpaa.A
