/- Lexing: All of lex. -/
import Derived.Test.YtljnfejcdadjpaaLx9
import Derived.Test.YtljnfejcdadjpaaLx11
import Derived.Test.YtljnfejcdadjpaaAm32
set_option linter.unusedSimpArgs false
set_option linter.unusedVariables false
set_option maxRecDepth 100000
set_option maxHeartbeats 4000000
namespace Go.Proofs.Ytljnfejcdadjpaa.A
open Go
abbrev tokTyL : TypeId := 31
def book5 (x_skipI : ByteArray → Int → Int) (x_tkK : ByteArray → Int → Int) (x_tkT : ByteArray → Int → ByteArray) (x_tkW : ByteArray → Int → Int) (x_tkN : ByteArray → Int → Int) (x_tkE : ByteArray → Int → Int) : Book := fun f xs => match f, xs with
  | 23, [.v false [.val (.string s)]] => some (rTok (x_tkK s 0) (x_tkT s 0) (x_tkW s 0) (x_tkN s 0) (x_tkE s 0))
  | 22, [.v false [.val (.string s)]] => some (ret1 (.st (vI (x_skipI s 0))))
  | _, _ => none
theorem skipI_ge (s : ByteArray) {i : Int} (h0 : 0 ≤ i) : i ≤ skipI s i := by unfold skipI; have := skip_ge s i.toNat; omega
theorem skip_le (s : ByteArray) (i : Nat) (h : i ≤ s.size) : skip s i ≤ s.size := by
  rw [skip]; split
  · rename_i h1
    split
    · exact skip_le s (i + 1) (by omega)
    · split
      · rename_i hc
        have h2 : i < span (fun c => !decide (c = 10)) s i := span_gt h1 (by simp [hc])
        have h3 : span (fun c => !decide (c = 10)) s i ≤ s.size := span_le _ s i (by omega)
        exact skip_le s (span (fun c => !decide (c = 10)) s i) h3
      · exact h
  · exact h
termination_by s.size - i
theorem skipI_le (s : ByteArray) {i : Int} (h0 : 0 ≤ i) (h : i ≤ s.size) : skipI s i ≤ s.size := by unfold skipI; have := skip_le s i.toNat (by omega); omega
theorem skipI_skipI (s : ByteArray) {i : Int} (h0 : 0 ≤ i) : skipI s (skipI s i) = skipI s i := by unfold skipI; rw [Int.toNat_natCast, skip_skip9]
theorem add_skip {s : ByteArray} {i : Int} (hs : s.size < 4611686018427387904) (h0 : 0 ≤ i) (h : i ≤ s.size) : arithI .add .i64 i (skipI (s.extract i.toNat s.size) 0) = skipI s i := by
  have h1 := skipI_le s h0 h
  have h2 := skipI_ge s h0
  have h3 := skipI_tail s h0 h
  rw [add64 (by omega) (by omega), h3]
set_option maxHeartbeats 4000000 in
theorem pc_All (s : ByteArray) (hs : s.size ≤ 65536) : PC Try.prog T 10 [.v false [vS s]] (rAll tokTyL s) [] := by
  refine pc_of tok Try.func10 rfl (by rfl) ?_
  obtain ⟨j, hj⟩ : ∃ j : J, j = std Try.prog T := ⟨_, rfl⟩
  generalize y_skipI : @skipI = x_skipI at *
  generalize y_tkK : @tkK = x_tkK at *
  generalize y_tkT : @tkT = x_tkT at *
  generalize y_tkW : @tkW = x_tkW at *
  generalize y_tkN : @tkN = x_tkN at *
  generalize y_tkE : @tkE = x_tkE at *
  (repeat' first | (refine aw_ret ⟨.inr rfl, ret_oknil hj tokTyL (by cbv) ?_ ?_⟩) | (with_reducible refine tr_cut (fun h => ?_) (fun h => ?_) <;> (try simp (disch := omega) only [hj, std, cmpI, cmpB, satB, Bool.not_eq_true, Bool.not_eq_false, decide_eq_true_eq, decide_eq_false_iff_not, beq_iff_eq, bne_iff_ne, bne_eq_false_iff_eq, beq_eq_false_iff_ne, ne_eq, reduceCtorEq, not_true_eq_false, not_false_eq_true, add64, sub64] at h) <;> (try (exfalso; omega))) | (with_reducible refine tr_alt (fun h => ?_) ?_ <;> (try (exfalso; omega))) | (with_reducible refine tr_ob ?_ ?_) | (with_reducible refine tr_done ?_) | (refine aw_tr hj tok (book5 x_skipI x_tkK x_tkT x_tkW x_tkN x_tkE) (by cbv) ?_) | (refine aw_seq fun K hK => ?_) | (refine aw_tr1 hj tok (book5 x_skipI x_tkK x_tkT x_tkW x_tkN x_tkE) (by cbv) ?_) | (refine aw_condj (by cbv) (fun h => ?_) (fun h => ?_) <;> (try simp (disch := omega) only [hj, std, cmpI, cmpB, satB, Bool.not_eq_true, Bool.not_eq_false, decide_eq_true_eq, decide_eq_false_iff_not, beq_iff_eq, bne_iff_ne, bne_eq_false_iff_eq, beq_eq_false_iff_ne, ne_eq, reduceCtorEq, not_true_eq_false, not_false_eq_true, add64, sub64] at h) <;> (try (exfalso; omega))) | (refine aw_skip ?_) | (refine aw_block ?_) | (refine aw_exit ?_) | (refine aw_ret ⟨.inr rfl, ret_okj hj (by cbv) ?_ ?_⟩) | (refine aw_ret ?_) | (with_reducible refine th_n ?_) | (with_reducible refine th_r ?_) | (with_reducible refine th_x ?_) | (with_reducible refine blk_n ?_) | (with_reducible refine blk_r ?_) | (with_reducible refine blk_x ?_) | (with_reducible refine blk_y rfl ?_) | (refine ⟨.inr rfl, ret_okj hj (by cbv) ?_ ?_⟩) | (refine ⟨.inl rfl, ret_okj hj (by cbv) ?_ ?_⟩) | ((with_reducible refine ⟨(_, _, _, _, _), by cbv, ?_, ?_⟩)) | ((with_reducible refine ⟨(_, _, _, _), by cbv, ?_, ?_⟩)) | ((with_reducible refine ⟨(_, _, _), by cbv, ?_, ?_⟩)) | ((with_reducible refine ⟨(_, _), by cbv, ?_, ?_⟩)) | ((with_reducible refine ⟨_, by cbv, ?_, ?_⟩)) | (with_reducible apply_assumption -symm -exfalso only [*]))
  all_goals ((try subst y_skipI); (try subst y_tkK); (try subst y_tkT); (try subst y_tkW); (try subst y_tkN); (try subst y_tkE))
  all_goals (try (repeat' first | with_reducible exact obl0 | with_reducible refine obl1 ?_ ?_))
  all_goals (try first | with_reducible exact True.intro | (refine ob_pc hj ?_; (try rw [hj]); first | exact c_blank (by omega)) | (refine ob_le hj ?_; (first | omega | (simp only [hj, std]; split <;> omega) | (simp (disch := omega) only [hj, std, cmpI, cmpB, satB, add64, sub64, ite0, pl0, if_true, eq_self] <;> omega) | (simp (disch := omega) [hj, std, cmpI, cmpB, satB, add64, sub64, ite0, pl0, if_true, eq_self] <;> omega))) | (refine ob_lei hj ?_; (first | omega | (simp only [hj, std]; split <;> omega) | (simp (disch := omega) only [hj, std, cmpI, cmpB, satB, add64, sub64, ite0, pl0, if_true, eq_self] <;> omega) | (simp (disch := omega) [hj, std, cmpI, cmpB, satB, add64, sub64, ite0, pl0, if_true, eq_self] <;> omega))) | (refine ob_inb hj ?_; (first | omega | (simp only [hj, std]; split <;> omega) | (simp (disch := omega) only [hj, std, cmpI, cmpB, satB, add64, sub64, ite0, pl0, if_true, eq_self] <;> omega) | (simp (disch := omega) [hj, std, cmpI, cmpB, satB, add64, sub64, ite0, pl0, if_true, eq_self] <;> omega))) | (refine ob_pos hj ?_; (first | omega | (simp only [hj, std]; split <;> omega) | (simp (disch := omega) only [hj, std, cmpI, cmpB, satB, add64, sub64, ite0, pl0, if_true, eq_self] <;> omega) | (simp (disch := omega) [hj, std, cmpI, cmpB, satB, add64, sub64, ite0, pl0, if_true, eq_self] <;> omega))) | (refine ob_ne0 hj ?_; (first | omega | (simp only [hj, std]; split <;> omega) | (simp (disch := omega) only [hj, std, cmpI, cmpB, satB, add64, sub64, ite0, pl0, if_true, eq_self] <;> omega) | (simp (disch := omega) [hj, std, cmpI, cmpB, satB, add64, sub64, ite0, pl0, if_true, eq_self] <;> omega))) | (refine ob_eqb hj ?_; (first | rfl | first | omega | (simp only [hj, std]; split <;> omega) | (simp (disch := omega) only [hj, std, cmpI, cmpB, satB, add64, sub64, ite0, pl0, if_true, eq_self] <;> omega) | (simp (disch := omega) [hj, std, cmpI, cmpB, satB, add64, sub64, ite0, pl0, if_true, eq_self] <;> omega))))
  refine aw_lpj hj [(0, .keep), (5, .own tokTyL), (6, .keep)] [] (fun a : Nat × List C × Int => stOf 47 [(0, .one (.c (vS s))), (5, .one (.view 5 0)), (6, .one (.c (vI a.2.2)))] [(5, .loose [.own tokTyL a.1 a.2.1])])
    (fun a => s.size - a.2.2.toNat) (fun a => LxI s a.1 a.2.1 a.2.2 ∧ skipI s a.2.2 = a.2.2) (0, [], skipI s 0) (by generalize @skipI = x_skipI; generalize @tkK = x_tkK; generalize @tkT = x_tkT; generalize @tkW = x_tkW; generalize @tkN = x_tkN; generalize @tkE = x_tkE; cbv) ⟨(LxI.start s).hop (skipI_ge s (by omega)) (skipI_le s (by omega) (by omega)) (skipI_skipI s (by omega)), skipI_skipI s (by omega)⟩ fun ⟨n, cs, i⟩ ⟨hI, hsk⟩ => ?_
  change LxI s n cs i at hI
  change skipI s i = i at hsk
  obtain ⟨l, hn, hcs, i0, i2, i4, hgo⟩ := id hI
  generalize y_skipI : @skipI = x_skipI at *
  generalize y_tkK : @tkK = x_tkK at *
  generalize y_tkT : @tkT = x_tkT at *
  generalize y_tkW : @tkW = x_tkW at *
  generalize y_tkN : @tkN = x_tkN at *
  generalize y_tkE : @tkE = x_tkE at *
  (repeat' first | (refine aw_ret ⟨.inr rfl, ret_oknil hj tokTyL (by cbv) ?_ ?_⟩) | (with_reducible refine tr_cut (fun h => ?_) (fun h => ?_) <;> (try simp (disch := omega) only [hj, std, cmpI, cmpB, satB, Bool.not_eq_true, Bool.not_eq_false, decide_eq_true_eq, decide_eq_false_iff_not, beq_iff_eq, bne_iff_ne, bne_eq_false_iff_eq, beq_eq_false_iff_ne, ne_eq, reduceCtorEq, not_true_eq_false, not_false_eq_true, add64, sub64] at h) <;> (try (exfalso; omega))) | (with_reducible refine tr_alt (fun h => ?_) ?_ <;> (try (exfalso; omega))) | (with_reducible refine tr_ob ?_ ?_) | (with_reducible refine tr_done ?_) | (refine aw_tr hj tok (book5 x_skipI x_tkK x_tkT x_tkW x_tkN x_tkE) (by cbv) ?_) | (refine aw_seq fun K hK => ?_) | (refine aw_tr1 hj tok (book5 x_skipI x_tkK x_tkT x_tkW x_tkN x_tkE) (by cbv) ?_) | (refine aw_condj (by cbv) (fun h => ?_) (fun h => ?_) <;> (try simp (disch := omega) only [hj, std, cmpI, cmpB, satB, Bool.not_eq_true, Bool.not_eq_false, decide_eq_true_eq, decide_eq_false_iff_not, beq_iff_eq, bne_iff_ne, bne_eq_false_iff_eq, beq_eq_false_iff_ne, ne_eq, reduceCtorEq, not_true_eq_false, not_false_eq_true, add64, sub64] at h) <;> (try (exfalso; omega))) | (refine aw_skip ?_) | (refine aw_block ?_) | (refine aw_exit ?_) | (refine aw_ret ⟨.inr rfl, ret_okj hj (by cbv) ?_ ?_⟩) | (refine aw_ret ?_) | (with_reducible refine th_n ?_) | (with_reducible refine th_r ?_) | (with_reducible refine th_x ?_) | (with_reducible refine blk_n ?_) | (with_reducible refine blk_r ?_) | (with_reducible refine blk_x ?_) | (with_reducible refine blk_y rfl ?_) | (refine ⟨.inr rfl, ret_okj hj (by cbv) ?_ ?_⟩) | (refine ⟨.inl rfl, ret_okj hj (by cbv) ?_ ?_⟩) | ((with_reducible refine ⟨(_, _, _, _, _), by cbv, ?_, ?_⟩)) | ((with_reducible refine ⟨(_, _, _, _), by cbv, ?_, ?_⟩)) | ((with_reducible refine ⟨(_, _, _), by cbv, ?_, ?_⟩)) | ((with_reducible refine ⟨(_, _), by cbv, ?_, ?_⟩)) | ((with_reducible refine ⟨_, by cbv, ?_, ?_⟩)) | (with_reducible apply_assumption -symm -exfalso only [*]))
  all_goals ((try subst y_skipI); (try subst y_tkK); (try subst y_tkT); (try subst y_tkW); (try subst y_tkN); (try subst y_tkE))
  all_goals (try (have hlt := ‹i < (s.size : Int)›; obtain ⟨t1, t2, t3, t4⟩ := tail_tk i0 hlt))
  all_goals (try (have he0 := ‹tkE (s.extract i.toNat s.size) 0 = 0›; rw [t4] at he0; have f := hI.tok hlt hsk he0; rw [tkW_ok i0 he0, ← t1, ← t2] at f; have e1 : arithI .add .i64 i (tkN (s.extract i.toNat s.size) 0) = tkN s i := (by rw [add64 (by omega) (by omega), t3])))
  all_goals (try (have e2 : (if n = 0 then 1 else n + 1) = n + 1 := (by split <;> omega); have b1 := skipI_ge s (i := tkN s i) (by omega); have b2 := skipI_le s (i := tkN s i) (by omega) (by omega); have b3 := skipI_skipI s (i := tkN s i) (by omega); have e3 := add_skip (show s.size < 4611686018427387904 by omega) (show 0 ≤ tkN s i by omega) f.2.2))
  all_goals (try (repeat' first | with_reducible exact obl0 | with_reducible refine obl1 ?_ ?_))
  all_goals (try first | with_reducible exact True.intro | (refine ob_pc hj ?_; (try rw [hj]); first | exact c_first (s := s.extract i.toNat s.size) (tail_lt (by omega)) (by rw [size_tail]; omega) | exact c_blank (tail_lt (by omega))) | (refine ob_le hj ?_; (first | omega | (simp only [hj, std]; split <;> omega) | (simp (disch := omega) only [hj, std, cmpI, cmpB, satB, add64, sub64, ite0, pl0, if_true, eq_self] <;> omega) | (simp (disch := omega) [hj, std, cmpI, cmpB, satB, add64, sub64, ite0, pl0, if_true, eq_self] <;> omega))) | (refine ob_lei hj ?_; (first | omega | (simp only [hj, std]; split <;> omega) | (simp (disch := omega) only [hj, std, cmpI, cmpB, satB, add64, sub64, ite0, pl0, if_true, eq_self] <;> omega) | (simp (disch := omega) [hj, std, cmpI, cmpB, satB, add64, sub64, ite0, pl0, if_true, eq_self] <;> omega))) | (refine ob_inb hj ?_; (first | omega | (simp only [hj, std]; split <;> omega) | (simp (disch := omega) only [hj, std, cmpI, cmpB, satB, add64, sub64, ite0, pl0, if_true, eq_self] <;> omega) | (simp (disch := omega) [hj, std, cmpI, cmpB, satB, add64, sub64, ite0, pl0, if_true, eq_self] <;> omega))) | (refine ob_pos hj ?_; (first | omega | (simp only [hj, std]; split <;> omega) | (simp (disch := omega) only [hj, std, cmpI, cmpB, satB, add64, sub64, ite0, pl0, if_true, eq_self] <;> omega) | (simp (disch := omega) [hj, std, cmpI, cmpB, satB, add64, sub64, ite0, pl0, if_true, eq_self] <;> omega))) | (refine ob_ne0 hj ?_; (first | omega | (simp only [hj, std]; split <;> omega) | (simp (disch := omega) only [hj, std, cmpI, cmpB, satB, add64, sub64, ite0, pl0, if_true, eq_self] <;> omega) | (simp (disch := omega) [hj, std, cmpI, cmpB, satB, add64, sub64, ite0, pl0, if_true, eq_self] <;> omega))) | (refine ob_eqb hj ?_; (first | rfl | first | omega | (simp only [hj, std]; split <;> omega) | (simp (disch := omega) only [hj, std, cmpI, cmpB, satB, add64, sub64, ite0, pl0, if_true, eq_self] <;> omega) | (simp (disch := omega) [hj, std, cmpI, cmpB, satB, add64, sub64, ite0, pl0, if_true, eq_self] <;> omega))) | ((have hq := ‹¬ i < (s.size : Int)›; exact rAll_of (hI.done hq))) | ((have hq := ‹¬ tkE (s.extract i.toNat s.size) 0 = 0›; have g := hI.bad hlt hsk (by rw [← t4]; exact hq); rw [← t4] at g; rw [hj]; exact rAll_of g)) | ((simp only [hj, std, e1, e3, e2]; first | exact ⟨f.1.hop b1 b2 b3, b3⟩ | omega)) | ((refine ob_lei hj ?_; simp only [hj, std, e1]; omega)))
end Go.Proofs.Ytljnfejcdadjpaa.A
