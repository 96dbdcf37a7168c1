/- Errors: the names of all numbers. -/
import Derived.Test.YtljnfejcdadjpaaDoorEr5
import Derived.Test.YtljnfejcdadjpaaDoorEr6
import Derived.Test.YtljnfejcdadjpaaDoorAmG
import Derived.Test.YtljnfejcdadjpaaDoorShelfP
set_option linter.unusedSimpArgs false
set_option linter.unusedVariables false
set_option maxRecDepth 100000
set_option maxHeartbeats 4000000
namespace Go.Proofs.YtljnfejcdadjpaaDoor.A
open Go Go.RowKit
theorem tab_of {name : String} (hn : Tryd.prog.globalNamed name = some 0) {w : World} {S : Nat → Prop} (h : Gnd w S) : Lib.TabIs Tryd.prog w name .u64 Lib.pow10Tab := by
  obtain ⟨_, e, z, hh⟩ := h
  unfold Lib.TabIs World.var?
  rw [hn]
  show (match w.heap[0]? with | some (.cells cs _ _) => some cs | _ => none) = _
  rw [hh]
  rfl
theorem c_Itoa (n : Int) (h0 : -9223372036854775808 ≤ n) (h1 : n ≤ 9223372036854775807) : pc 17 [.v false [vI n]] (ret1 (.st (vS (itoaS n)))) := by
  refine ⟨enters Tryd.func17 (by kernel_rfl) (by kernel_rfl), pc_of_calls rfl fun w S bx vs hlow hl ha => ?_⟩
  have hv : vs = [.int .i64 n] := by
    match vs, hl, ha with
    | [v], _, ha =>
      obtain ⟨c, hc, hr⟩ := ha 0 (by simp) (by simp)
      cases hc
      rw [show v = .int .i64 n from (crep_val hr).1]
    | [], hl, _ => cases hl
    | _ :: _ :: _, hl, _ => cases hl
  subst hv
  refine (Any.strconv_Itoa Tryd.laysM171 n h0 h1 w (tab_of (by kernel_rfl) hlow.2)).mono ?_
  rintro e w' ⟨rfl, k, os, rfl⟩
  exact ⟨rfl, ⟨rfl, rfl, rfl, by simp [Go.Sort.grow], fun b hb _ => by simp [Go.Sort.grow, Array.getElem?_append_left hb]⟩⟩
abbrev errP : ByteArray := ⟨⟨[101, 114, 114, 111, 114, 45]⟩⟩
def nameE (n : Int) : ByteArray := if 0 ≤ n ∧ n < 25 then eName n.toNat else errP ++ itoaS n
/-- the kind of an error -/
def kindE (n : Int) : Int := if n = 0 then 0 else if 9 ≤ n ∧ n ≤ 12 then 1 else if n = 1 ∨ 13 ≤ n ∧ n ≤ 21 then 2 else if 0 ≤ n ∧ n < 25 then 3 else 4
def bookN (x_knownI : Int → Bool) (x_findP : ByteArray → Int) (x_findB : ByteArray → Bool) (x_rowO : List C) (x_itoaS : Int → ByteArray) (x_nameE : Int → ByteArray) (x_kindE : Int → Int) : Book := fun f xs => match f, xs with
  | 17, [.v false [.val (.int .i64 n)]] => some (ret1 (.st (vS (x_itoaS n))))
  | 18, [.v false [.val (.int .i64 n)]] => some (ret1 (.st (vS (x_itoaS n))))
  | 6, [] => some (ret1 (.own strT 25 x_rowO))
  | 13, [] => some rNames
  | 16, [.v false [.val (.int .i64 n)]] => some (ret1 (.st (vB (x_knownI n))))
  | 10, [.v false [.val (.int .i64 n)]] => some (ret1 (.st (vS (x_nameE n))))
  | 11, [.v false [.val (.int .i64 n)]] => some (ret1 (.st (vS (x_nameE n))))
  | 7, [.v false [.val (.string s)]] => some (rets [(false, [.st (vI (x_findP s))]), (false, [.st (vB (x_findB s))])])
  | 12, [.v false [.val (.int .i64 n)]] => some (ret1 (.st (vI (x_kindE n))))
  | 8, [] => some (ret1 (.st (vB true)))
  | _, _ => none
theorem itoa_fewA {n : Int} (h0 : -9223372036854775808 ≤ n) (h1 : n ≤ 9223372036854775807) : (itoaS n).size ≤ 20 := by
  by_cases h : 0 ≤ n
  · exact Nat.le_trans (itoa_few h h1) (by omega)
  · by_cases h2 : n = -9223372036854775808
    · rw [h2, ← itoa_min]; exact Nat.le_refl _
    · rw [← itoa_neg (by omega), ByteArray.size_append]
      have := itoa_few (n := -n) (by omega) (by omega)
      have q2 : (⟨⟨[45]⟩⟩ : ByteArray).size = 1 := rfl
      omega
theorem c_NameE (n : Int) (h0 : -9223372036854775808 ≤ n) (h1 : n ≤ 9223372036854775807) : pc 10 [.v false [vI n]] (ret1 (.st (vS (nameE n)))) := by
  by_cases hn : 0 ≤ n ∧ n < 25
  · have e : nameE n = eName n.toNat := if_pos hn
    rw [e]; exact c_NameK n hn.1 hn.2
  refine ⟨enters Tryd.func10 (by kernel_rfl) (by kernel_rfl), pc_of tok Tryd.func10 rfl (by rfl) ?_⟩
  obtain ⟨j, hj⟩ : ∃ j : J, j = std Tryd.prog T := ⟨_, rfl⟩
  have hm : Tryd.prog.follows .mixedOrders = true := by kernel_rfl
  have hk : knownI n = false := decide_eq_false hn
  have e : nameE n = errP ++ itoaS n := if_neg hn
  have hz := itoa_fewA h0 h1
  generalize y_knownI : @knownI = x_knownI at *
  generalize y_findP : @findP = x_findP at *
  generalize y_findB : @findB = x_findB at *
  generalize y_rowO : @rowO = x_rowO at *
  generalize y_itoaS : @itoaS = x_itoaS at *
  generalize y_nameE : @nameE = x_nameE at *
  generalize y_kindE : @kindE = x_kindE at *
  generalize y_eName : @eName = x_eName at *
  (repeat' first | (with_reducible refine tr_cut (fun h => ?_) (fun h => ?_) <;> (try simp (disch := omega) only [hj, std, cmpI, cmpB, satB, Bool.not_eq_true, Bool.not_eq_false, decide_eq_true_eq, decide_eq_false_iff_not, beq_iff_eq, bne_iff_ne, bne_eq_false_iff_eq, beq_eq_false_iff_ne, ne_eq, reduceCtorEq, not_true_eq_false, not_false_eq_true, pl0, if_true, cmpS_eq, cmpS_neq, Bool.not_eq_eq_eq_not, Bool.not_true, Bool.not_false, Bool.not_eq_true', add64, sub64] at h) <;> (try (exfalso; omega))) | (with_reducible refine tr_alt (fun h => ?_) ?_ <;> (try (exfalso; omega))) | (with_reducible refine tr_ob ?_ ?_) | (with_reducible refine tr_done ?_) | (refine aw_tr hj tok (bookN x_knownI x_findP x_findB x_rowO x_itoaS x_nameE x_kindE) (by cbv) ?_) | (refine aw_seq fun K hK => ?_) | (refine aw_tr1 hj tok (bookN x_knownI x_findP x_findB x_rowO x_itoaS x_nameE x_kindE) (by cbv) ?_) | (refine aw_condj (by cbv) (fun h => ?_) (fun h => ?_) <;> (try simp (disch := omega) only [hj, std, cmpI, cmpB, satB, Bool.not_eq_true, Bool.not_eq_false, decide_eq_true_eq, decide_eq_false_iff_not, beq_iff_eq, bne_iff_ne, bne_eq_false_iff_eq, beq_eq_false_iff_ne, ne_eq, reduceCtorEq, not_true_eq_false, not_false_eq_true, pl0, if_true, cmpS_eq, cmpS_neq, Bool.not_eq_eq_eq_not, Bool.not_true, Bool.not_false, Bool.not_eq_true', add64, sub64] at h) <;> (try (exfalso; omega))) | (refine aw_skip ?_) | (refine aw_block ?_) | (refine aw_exit ?_) | (refine aw_ret ⟨.inr rfl, ret_okj hj (by cbv) ?_ ?_⟩) | (refine aw_ret ?_) | (with_reducible refine th_n ?_) | (with_reducible refine th_r ?_) | (with_reducible refine th_x ?_) | (with_reducible refine blk_n ?_) | (with_reducible refine blk_r ?_) | (with_reducible refine blk_x ?_) | (with_reducible refine blk_y rfl ?_) | (refine ⟨.inr rfl, ret_okj hj (by cbv) ?_ ?_⟩) | (refine ⟨.inl rfl, ret_okj hj (by cbv) ?_ ?_⟩) | ((with_reducible refine ⟨(_, _, _, _, _, _, _), by cbv, ?_, ?_⟩)) | ((with_reducible refine ⟨(_, _, _, _, _, _), by cbv, ?_, ?_⟩)) | ((with_reducible refine ⟨(_, _, _, _, _), by cbv, ?_, ?_⟩)) | ((with_reducible refine ⟨(_, _, _, _), by cbv, ?_, ?_⟩)) | ((with_reducible refine ⟨(_, _, _), by cbv, ?_, ?_⟩)) | ((with_reducible refine ⟨(_, _), by cbv, ?_, ?_⟩)) | ((with_reducible refine ⟨_, by cbv, ?_, ?_⟩)) | (with_reducible apply_assumption -symm -exfalso only [*]))
  all_goals ((try subst y_knownI); (try subst y_findP); (try subst y_findB); (try subst y_rowO); (try subst y_itoaS); (try subst y_nameE); (try subst y_kindE); (try subst y_eName))
  all_goals (try (repeat' first | with_reducible exact obl0 | with_reducible refine obl1 ?_ ?_))
  all_goals (try first | with_reducible exact True.intro | (refine ob_pc hj ?_; (try rw [hj]); first | exact c_names | exact c_known _ | exact c_Itoa n h0 h1) | (refine ob_le hj ?_; (first | omega | (simp only [hj, std]; split <;> omega) | (simp (disch := omega) only [hj, std, cmpI, cmpB, satB, add64, sub64, ite0, pl0, pl2, pl3, sb0, if_true, if_false, eq_self] <;> omega) | (simp (disch := omega) [hj, std, cmpI, cmpB, satB, add64, sub64, ite0, pl0, pl2, pl3, sb0, if_true, if_false, eq_self] <;> omega))) | (refine ob_lei hj ?_; (first | omega | (simp only [hj, std]; split <;> omega) | (simp (disch := omega) only [hj, std, cmpI, cmpB, satB, add64, sub64, ite0, pl0, pl2, pl3, sb0, if_true, if_false, eq_self] <;> omega) | (simp (disch := omega) [hj, std, cmpI, cmpB, satB, add64, sub64, ite0, pl0, pl2, pl3, sb0, if_true, if_false, eq_self] <;> omega))) | (refine ob_inb hj ?_; (first | omega | (simp only [hj, std]; split <;> omega) | (simp (disch := omega) only [hj, std, cmpI, cmpB, satB, add64, sub64, ite0, pl0, pl2, pl3, sb0, if_true, if_false, eq_self] <;> omega) | (simp (disch := omega) [hj, std, cmpI, cmpB, satB, add64, sub64, ite0, pl0, pl2, pl3, sb0, if_true, if_false, eq_self] <;> omega))) | (refine ob_pos hj ?_; (first | omega | (simp only [hj, std]; split <;> omega) | (simp (disch := omega) only [hj, std, cmpI, cmpB, satB, add64, sub64, ite0, pl0, pl2, pl3, sb0, if_true, if_false, eq_self] <;> omega) | (simp (disch := omega) [hj, std, cmpI, cmpB, satB, add64, sub64, ite0, pl0, pl2, pl3, sb0, if_true, if_false, eq_self] <;> omega))) | (refine ob_ne0 hj ?_; (first | omega | (simp only [hj, std]; split <;> omega) | (simp (disch := omega) only [hj, std, cmpI, cmpB, satB, add64, sub64, ite0, pl0, pl2, pl3, sb0, if_true, if_false, eq_self] <;> omega) | (simp (disch := omega) [hj, std, cmpI, cmpB, satB, add64, sub64, ite0, pl0, pl2, pl3, sb0, if_true, if_false, eq_self] <;> omega))) | (refine ob_eqb hj ?_; (first | rfl | first | omega | (simp only [hj, std]; split <;> omega) | (simp (disch := omega) only [hj, std, cmpI, cmpB, satB, add64, sub64, ite0, pl0, pl2, pl3, sb0, if_true, if_false, eq_self] <;> omega) | (simp (disch := omega) [hj, std, cmpI, cmpB, satB, add64, sub64, ite0, pl0, pl2, pl3, sb0, if_true, if_false, eq_self] <;> omega))) | ((refine ob_le hj ?_; simp only [hj, std]; exact Nat.le_trans (Nat.add_le_add (Nat.le_refl 6) hz) (by omega))) | ((exfalso; have q := ‹knownI n = true›; rw [hk] at q; cases q)) | ((refine ret1_s ?_; rw [hj]; exact e)))
theorem c_Err (n : Int) (h0 : -9223372036854775808 ≤ n) (h1 : n ≤ 9223372036854775807) : pc 11 [.v false [vI n]] (ret1 (.st (vS (nameE n)))) := by
  refine ⟨enters Tryd.func11 (by kernel_rfl) (by kernel_rfl), pc_of tok Tryd.func11 rfl (by rfl) ?_⟩
  obtain ⟨j, hj⟩ : ∃ j : J, j = std Tryd.prog T := ⟨_, rfl⟩
  have hm : Tryd.prog.follows .mixedOrders = true := by kernel_rfl
  have hz := itoa_fewA h0 h1
  have hat : n < 25 → 0 ≤ n → cellAt rowO n.toNat = vS (eName n.toNat) := fun h h2 => rowO_at (by omega)
  generalize y_knownI : @knownI = x_knownI at *
  generalize y_findP : @findP = x_findP at *
  generalize y_findB : @findB = x_findB at *
  generalize y_rowO : @rowO = x_rowO at *
  generalize y_itoaS : @itoaS = x_itoaS at *
  generalize y_nameE : @nameE = x_nameE at *
  generalize y_kindE : @kindE = x_kindE at *
  generalize y_eName : @eName = x_eName at *
  (repeat' first | (with_reducible refine tr_cut (fun h => ?_) (fun h => ?_) <;> (try simp (disch := omega) only [hj, std, cmpI, cmpB, satB, Bool.not_eq_true, Bool.not_eq_false, decide_eq_true_eq, decide_eq_false_iff_not, beq_iff_eq, bne_iff_ne, bne_eq_false_iff_eq, beq_eq_false_iff_ne, ne_eq, reduceCtorEq, not_true_eq_false, not_false_eq_true, pl0, if_true, cmpS_eq, cmpS_neq, Bool.not_eq_eq_eq_not, Bool.not_true, Bool.not_false, Bool.not_eq_true', add64, sub64] at h) <;> (try (exfalso; omega))) | (with_reducible refine tr_alt (fun h => ?_) ?_ <;> (try (exfalso; omega))) | (with_reducible refine tr_ob ?_ ?_) | (with_reducible refine tr_done ?_) | (refine aw_tr hj tok (bookN x_knownI x_findP x_findB x_rowO x_itoaS x_nameE x_kindE) (by cbv) ?_) | (refine aw_seq fun K hK => ?_) | (refine aw_tr1 hj tok (bookN x_knownI x_findP x_findB x_rowO x_itoaS x_nameE x_kindE) (by cbv) ?_) | (refine aw_condj (by cbv) (fun h => ?_) (fun h => ?_) <;> (try simp (disch := omega) only [hj, std, cmpI, cmpB, satB, Bool.not_eq_true, Bool.not_eq_false, decide_eq_true_eq, decide_eq_false_iff_not, beq_iff_eq, bne_iff_ne, bne_eq_false_iff_eq, beq_eq_false_iff_ne, ne_eq, reduceCtorEq, not_true_eq_false, not_false_eq_true, pl0, if_true, cmpS_eq, cmpS_neq, Bool.not_eq_eq_eq_not, Bool.not_true, Bool.not_false, Bool.not_eq_true', add64, sub64] at h) <;> (try (exfalso; omega))) | (refine aw_skip ?_) | (refine aw_block ?_) | (refine aw_exit ?_) | (refine aw_ret ⟨.inr rfl, ret_okj hj (by cbv) ?_ ?_⟩) | (refine aw_ret ?_) | (with_reducible refine th_n ?_) | (with_reducible refine th_r ?_) | (with_reducible refine th_x ?_) | (with_reducible refine blk_n ?_) | (with_reducible refine blk_r ?_) | (with_reducible refine blk_x ?_) | (with_reducible refine blk_y rfl ?_) | (refine ⟨.inr rfl, ret_okj hj (by cbv) ?_ ?_⟩) | (refine ⟨.inl rfl, ret_okj hj (by cbv) ?_ ?_⟩) | ((with_reducible refine ⟨(_, _, _, _, _, _, _), by cbv, ?_, ?_⟩)) | ((with_reducible refine ⟨(_, _, _, _, _, _), by cbv, ?_, ?_⟩)) | ((with_reducible refine ⟨(_, _, _, _, _), by cbv, ?_, ?_⟩)) | ((with_reducible refine ⟨(_, _, _, _), by cbv, ?_, ?_⟩)) | ((with_reducible refine ⟨(_, _, _), by cbv, ?_, ?_⟩)) | ((with_reducible refine ⟨(_, _), by cbv, ?_, ?_⟩)) | ((with_reducible refine ⟨_, by cbv, ?_, ?_⟩)) | (with_reducible apply_assumption -symm -exfalso only [*]))
  all_goals ((try subst y_knownI); (try subst y_findP); (try subst y_findB); (try subst y_rowO); (try subst y_itoaS); (try subst y_nameE); (try subst y_kindE); (try subst y_eName))
  all_goals (try (repeat' first | with_reducible exact obl0 | with_reducible refine obl1 ?_ ?_))
  all_goals (try first | with_reducible exact True.intro | (refine ob_pc hj ?_; (try rw [hj]); first | exact c_NamesO | exact c_Dec n h0 h1) | (refine ob_le hj ?_; (first | omega | (simp only [hj, std]; split <;> omega) | (simp (disch := omega) only [hj, std, cmpI, cmpB, satB, add64, sub64, ite0, pl0, pl2, pl3, sb0, if_true, if_false, eq_self, rowO_len] <;> omega) | (simp (disch := omega) [hj, std, cmpI, cmpB, satB, add64, sub64, ite0, pl0, pl2, pl3, sb0, if_true, if_false, eq_self, rowO_len] <;> omega))) | (refine ob_lei hj ?_; (first | omega | (simp only [hj, std]; split <;> omega) | (simp (disch := omega) only [hj, std, cmpI, cmpB, satB, add64, sub64, ite0, pl0, pl2, pl3, sb0, if_true, if_false, eq_self, rowO_len] <;> omega) | (simp (disch := omega) [hj, std, cmpI, cmpB, satB, add64, sub64, ite0, pl0, pl2, pl3, sb0, if_true, if_false, eq_self, rowO_len] <;> omega))) | (refine ob_inb hj ?_; (first | omega | (simp only [hj, std]; split <;> omega) | (simp (disch := omega) only [hj, std, cmpI, cmpB, satB, add64, sub64, ite0, pl0, pl2, pl3, sb0, if_true, if_false, eq_self, rowO_len] <;> omega) | (simp (disch := omega) [hj, std, cmpI, cmpB, satB, add64, sub64, ite0, pl0, pl2, pl3, sb0, if_true, if_false, eq_self, rowO_len] <;> omega))) | (refine ob_pos hj ?_; (first | omega | (simp only [hj, std]; split <;> omega) | (simp (disch := omega) only [hj, std, cmpI, cmpB, satB, add64, sub64, ite0, pl0, pl2, pl3, sb0, if_true, if_false, eq_self, rowO_len] <;> omega) | (simp (disch := omega) [hj, std, cmpI, cmpB, satB, add64, sub64, ite0, pl0, pl2, pl3, sb0, if_true, if_false, eq_self, rowO_len] <;> omega))) | (refine ob_ne0 hj ?_; (first | omega | (simp only [hj, std]; split <;> omega) | (simp (disch := omega) only [hj, std, cmpI, cmpB, satB, add64, sub64, ite0, pl0, pl2, pl3, sb0, if_true, if_false, eq_self, rowO_len] <;> omega) | (simp (disch := omega) [hj, std, cmpI, cmpB, satB, add64, sub64, ite0, pl0, pl2, pl3, sb0, if_true, if_false, eq_self, rowO_len] <;> omega))) | (refine ob_eqb hj ?_; (first | rfl | first | omega | (simp only [hj, std]; split <;> omega) | (simp (disch := omega) only [hj, std, cmpI, cmpB, satB, add64, sub64, ite0, pl0, pl2, pl3, sb0, if_true, if_false, eq_self, rowO_len] <;> omega) | (simp (disch := omega) [hj, std, cmpI, cmpB, satB, add64, sub64, ite0, pl0, pl2, pl3, sb0, if_true, if_false, eq_self, rowO_len] <;> omega))) | ((refine ob_vals hj ?_; exact rowO_vals)) | ((refine ob_ok hj ?_; rw [hj]; exact ⟨_, hat (by omega) (by omega)⟩)) | ((refine ob_le hj ?_; simp only [hj, std]; exact Nat.le_trans (Nat.add_le_add (Nat.le_refl 6) hz) (by omega))) | ((refine ret1_s ?_; rw [hj]; exact (if_pos ⟨by omega, by omega⟩).trans (congrArg gs (hat (by omega) (by omega))).symm)) | ((refine ret1_s ?_; rw [hj]; exact if_neg (by omega))))
end Go.Proofs.YtljnfejcdadjpaaDoor.A
