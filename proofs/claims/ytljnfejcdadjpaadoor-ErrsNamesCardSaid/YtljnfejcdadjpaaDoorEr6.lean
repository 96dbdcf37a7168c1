/- Errors: numbers as texts. -/
import Derived.Test.YtljnfejcdadjpaaDoorEr4
import Derived.Test.YtljnfejcdadjpaaDoorEr3
import Derived.Lib.ItoaNum
set_option linter.unusedSimpArgs false
set_option linter.unusedVariables false
set_option maxRecDepth 100000
set_option maxHeartbeats 4000000
namespace Go.Proofs.YtljnfejcdadjpaaDoor.A
open Go
/-- a number's text -/
def itoaS (n : Int) : ByteArray := ⟨(Lib.itoa n).toArray⟩
abbrev digs : ByteArray := ⟨⟨[48, 49, 50, 51, 52, 53, 54, 55, 56, 57]⟩⟩
theorem app_list (a b : List UInt8) : (⟨(a ++ b).toArray⟩ : ByteArray) = ⟨a.toArray⟩ ++ ⟨b.toArray⟩ := by
  apply ByteArray.ext; rw [ByteArray.data_append]; simp
theorem dig_at : ∀ k : Fin 10, digs.extract k.1 (k.1 + 1) = ⟨[UInt8.ofNat (48 + k.1)].toArray⟩ := by decide +kernel
theorem itoa_small {n : Int} (h0 : 0 ≤ n) (h : n < 10) : digs.extract n.toNat (n.toNat + 1) = itoaS n := by
  unfold itoaS Lib.itoa
  rw [if_neg (by omega), Lib.decDigits, dif_pos (by omega)]
  exact dig_at ⟨n.toNat, by omega⟩
theorem itoa_big {n : Int} (h : ¬ n < 10) : itoaS (n / 10) ++ digs.extract (n % 10).toNat ((n % 10).toNat + 1) = itoaS n := by
  unfold itoaS Lib.itoa
  rw [if_neg (by omega), if_neg (by omega)]
  rw [show Lib.decDigits n.toNat = Lib.decDigits (n.toNat / 10) ++ [UInt8.ofNat (48 + n.toNat % 10)] by rw [Lib.decDigits, dif_neg (by omega)]]
  rw [app_list, show (n / 10).toNat = n.toNat / 10 by omega, show (n % 10).toNat = n.toNat % 10 by omega]
  rw [← dig_at ⟨n.toNat % 10, by omega⟩]
theorem itoa_neg {n : Int} (h : n < 0) : (⟨⟨[45]⟩⟩ : ByteArray) ++ itoaS (-n) = itoaS n := by
  unfold itoaS Lib.itoa
  rw [if_neg (by omega), if_pos h, show (-n).toNat = n.natAbs by omega]
  exact (app_list [45] _).symm
theorem itoa_min : (⟨⟨[45, 57, 50, 50, 51, 51, 55, 50, 48, 51, 54, 56, 53, 52, 55, 55, 53, 56, 48, 56]⟩⟩ : ByteArray) = itoaS (-9223372036854775808) := by
  unfold itoaS Lib.itoa
  rw [if_pos (by omega), show (-9223372036854775808 : Int).natAbs = 9223372036854775808 by rfl, Lib.decDigits_eq, Lib.nDigits_unique 18 9223372036854775808 (by decide) (by decide)]
  decide +kernel
theorem itoa_size (n : Int) (h0 : 0 ≤ n) : ∀ k : Nat, n.toNat < 10 ^ (k + 1) → (itoaS n).size ≤ k + 1 := by
  intro k h
  have e : (itoaS n).size = (Lib.decDigits n.toNat).length := by unfold itoaS Lib.itoa; rw [if_neg (by omega)]; simp [ByteArray.size]
  rw [e]
  generalize n.toNat = u at h
  clear e h0
  induction k generalizing u with
  | zero => rw [Lib.decDigits, dif_pos (by omega)]; simp
  | succ k ih =>
    rw [Lib.decDigits]
    split
    · simp
    · rw [List.length_append]
      have := ih (u / 10) (by rw [Nat.pow_succ] at h; omega)
      simp only [List.length_cons, List.length_nil]; omega
theorem itoa_few {n : Int} (h0 : 0 ≤ n) (h : n ≤ 9223372036854775807) : (itoaS n).size ≤ 19 := itoa_size n h0 18 (by have : n.toNat ≤ 9223372036854775807 := (by omega); exact Nat.lt_of_le_of_lt this (by decide))
def bookD (x_itoaS : Int → ByteArray) : Book := fun f xs => match f, xs with
  | 18, [.v false [.val (.int .i64 n)]] => some (ret1 (.st (vS (x_itoaS n))))
  | _, _ => none
set_option maxRecDepth 100000 in
theorem c_DecS (n : Int) (h0 : 0 ≤ n) (h1 : n ≤ 9223372036854775807) (hc : ¬ n < 10 → pc 18 [.v false [vI (n / 10)]] (ret1 (.st (vS (itoaS (n / 10)))))) : pc 18 [.v false [vI n]] (ret1 (.st (vS (itoaS n)))) := by
  refine ⟨enters Tryd.func18 (by kernel_rfl) (by kernel_rfl), pc_of tok Tryd.func18 rfl (by rfl) ?_⟩
  obtain ⟨j, hj⟩ : ∃ j : J, j = std Tryd.prog T := ⟨_, rfl⟩
  have hm : Tryd.prog.follows .mixedOrders = true := by kernel_rfl
  have e1 : arithI .quo .i64 n 10 = n / 10 := by
    show IntKind.wrap .i64 (n.tdiv 10) = _
    rw [Int.tdiv_eq_ediv_of_nonneg h0]; exact wrap64 (by omega) (by omega)
  have e2 : arithI .rem .i64 n 10 = n % 10 := by
    show n.tmod 10 = _
    rw [Int.tmod_eq_emod_of_nonneg h0]
  have e4 : arithI .add .i64 (n % 10) 1 = n % 10 + 1 := add64 (by omega) (by omega)
  have hd : (⟨⟨[48, 49, 50, 51, 52, 53, 54, 55, 56, 57]⟩⟩ : ByteArray).size = 10 := rfl
  have hz : ¬ n < 10 → (itoaS (n / 10)).size ≤ 19 := fun h => itoa_few (by omega) (by omega)
  generalize y_itoaS : @itoaS = x_itoaS at *
  (repeat' first | (with_reducible refine tr_cut (fun h => ?_) (fun h => ?_) <;> (try simp (disch := omega) only [hj, std, cmpI, cmpB, satB, Bool.not_eq_true, Bool.not_eq_false, decide_eq_true_eq, decide_eq_false_iff_not, beq_iff_eq, bne_iff_ne, bne_eq_false_iff_eq, beq_eq_false_iff_ne, ne_eq, reduceCtorEq, not_true_eq_false, not_false_eq_true, pl0, if_true, cmpS_eq, cmpS_neq, Bool.not_eq_eq_eq_not, Bool.not_true, Bool.not_false, Bool.not_eq_true', e1, e2, e4, add64, sub64] at h) <;> (try (exfalso; omega))) | (with_reducible refine tr_alt (fun h => ?_) ?_ <;> (try (exfalso; omega))) | (with_reducible refine tr_ob ?_ ?_) | (with_reducible refine tr_done ?_) | (refine aw_dr1 (id := 8) hj tok hm (bookD x_itoaS) true [(0, false), (1, false), (3, false), (4, false), (5, false), (6, false), (7, false), (8, false), (9, false), (2, true), (10, true), (11, true)] (by kernel_rfl) (by cbv) ?_) | (refine aw_dr (id := 8) hj tok hm (bookD x_itoaS) true [(0, false), (1, false), (3, false), (4, false), (5, false), (6, false), (7, false), (8, false), (9, false), (2, true), (10, true), (11, true)] (by kernel_rfl) (by cbv) ?_) | (refine aw_tr hj tok (bookD x_itoaS) (by cbv) ?_) | (refine aw_seq fun K hK => ?_) | (refine aw_tr1 hj tok (bookD x_itoaS) (by cbv) ?_) | (refine aw_condj (by cbv) (fun h => ?_) (fun h => ?_) <;> (try simp (disch := omega) only [hj, std, cmpI, cmpB, satB, Bool.not_eq_true, Bool.not_eq_false, decide_eq_true_eq, decide_eq_false_iff_not, beq_iff_eq, bne_iff_ne, bne_eq_false_iff_eq, beq_eq_false_iff_ne, ne_eq, reduceCtorEq, not_true_eq_false, not_false_eq_true, pl0, if_true, cmpS_eq, cmpS_neq, Bool.not_eq_eq_eq_not, Bool.not_true, Bool.not_false, Bool.not_eq_true', e1, e2, e4, add64, sub64] at h) <;> (try (exfalso; omega))) | (refine aw_skip ?_) | (refine aw_block ?_) | (refine aw_exit ?_) | (refine aw_ret ⟨.inr rfl, ret_okj hj (by cbv) ?_ ?_⟩) | (refine aw_ret ?_) | (with_reducible refine th_n ?_) | (with_reducible refine th_r ?_) | (with_reducible refine th_x ?_) | (with_reducible refine blk_n ?_) | (with_reducible refine blk_r ?_) | (with_reducible refine blk_x ?_) | (with_reducible refine blk_y rfl ?_) | (refine ⟨.inr rfl, ret_okj hj (by cbv) ?_ ?_⟩) | (refine ⟨.inl rfl, ret_okj hj (by cbv) ?_ ?_⟩) | ((with_reducible refine ⟨(_, _, _, _, _, _, _), by cbv, ?_, ?_⟩)) | ((with_reducible refine ⟨(_, _, _, _, _, _), by cbv, ?_, ?_⟩)) | ((with_reducible refine ⟨(_, _, _, _, _), by cbv, ?_, ?_⟩)) | ((with_reducible refine ⟨(_, _, _, _), by cbv, ?_, ?_⟩)) | ((with_reducible refine ⟨(_, _, _), by cbv, ?_, ?_⟩)) | ((with_reducible refine ⟨(_, _), by cbv, ?_, ?_⟩)) | ((with_reducible refine ⟨_, by cbv, ?_, ?_⟩)) | (with_reducible apply_assumption -symm -exfalso only [*]))
  all_goals ((try subst y_itoaS))
  all_goals (try (repeat' first | with_reducible exact obl0 | with_reducible refine obl1 ?_ ?_))
  all_goals (try first | with_reducible exact True.intro | (refine ob_pc hj ?_; (try rw [hj]); first | exact (by have q := hc (by omega); rw [← e1] at q; exact q)) | (refine ob_le hj ?_; (first | omega | (simp only [hj, std]; split <;> omega) | (simp (disch := omega) only [hj, std, cmpI, cmpB, satB, add64, sub64, ite0, pl0, pl2, pl3, sb0, if_true, if_false, eq_self, e1, e2, e4, hd] <;> omega) | (simp (disch := omega) [hj, std, cmpI, cmpB, satB, add64, sub64, ite0, pl0, pl2, pl3, sb0, if_true, if_false, eq_self, e1, e2, e4, hd] <;> omega))) | (refine ob_lei hj ?_; (first | omega | (simp only [hj, std]; split <;> omega) | (simp (disch := omega) only [hj, std, cmpI, cmpB, satB, add64, sub64, ite0, pl0, pl2, pl3, sb0, if_true, if_false, eq_self, e1, e2, e4, hd] <;> omega) | (simp (disch := omega) [hj, std, cmpI, cmpB, satB, add64, sub64, ite0, pl0, pl2, pl3, sb0, if_true, if_false, eq_self, e1, e2, e4, hd] <;> omega))) | (refine ob_inb hj ?_; (first | omega | (simp only [hj, std]; split <;> omega) | (simp (disch := omega) only [hj, std, cmpI, cmpB, satB, add64, sub64, ite0, pl0, pl2, pl3, sb0, if_true, if_false, eq_self, e1, e2, e4, hd] <;> omega) | (simp (disch := omega) [hj, std, cmpI, cmpB, satB, add64, sub64, ite0, pl0, pl2, pl3, sb0, if_true, if_false, eq_self, e1, e2, e4, hd] <;> omega))) | (refine ob_pos hj ?_; (first | omega | (simp only [hj, std]; split <;> omega) | (simp (disch := omega) only [hj, std, cmpI, cmpB, satB, add64, sub64, ite0, pl0, pl2, pl3, sb0, if_true, if_false, eq_self, e1, e2, e4, hd] <;> omega) | (simp (disch := omega) [hj, std, cmpI, cmpB, satB, add64, sub64, ite0, pl0, pl2, pl3, sb0, if_true, if_false, eq_self, e1, e2, e4, hd] <;> omega))) | (refine ob_ne0 hj ?_; (first | omega | (simp only [hj, std]; split <;> omega) | (simp (disch := omega) only [hj, std, cmpI, cmpB, satB, add64, sub64, ite0, pl0, pl2, pl3, sb0, if_true, if_false, eq_self, e1, e2, e4, hd] <;> omega) | (simp (disch := omega) [hj, std, cmpI, cmpB, satB, add64, sub64, ite0, pl0, pl2, pl3, sb0, if_true, if_false, eq_self, e1, e2, e4, hd] <;> omega))) | (refine ob_eqb hj ?_; (first | rfl | first | omega | (simp only [hj, std]; split <;> omega) | (simp (disch := omega) only [hj, std, cmpI, cmpB, satB, add64, sub64, ite0, pl0, pl2, pl3, sb0, if_true, if_false, eq_self, e1, e2, e4, hd] <;> omega) | (simp (disch := omega) [hj, std, cmpI, cmpB, satB, add64, sub64, ite0, pl0, pl2, pl3, sb0, if_true, if_false, eq_self, e1, e2, e4, hd] <;> omega))) | ((refine ob_le hj ?_; simp only [hj, std, e1, e2, e4, ByteArray.size_extract]; have q := hz (by omega); omega)) | ((refine ret1_s ?_; simp (disch := omega) only [hj, std, add64]; rw [show (n + 1).toNat = n.toNat + 1 by omega]; exact (itoa_small h0 (by omega)).symm)) | ((refine ret1_s ?_; simp only [hj, std, e1, e2, e4]; rw [show (n % 10 + 1).toNat = (n % 10).toNat + 1 by omega]; exact (itoa_big (by omega)).symm)))
theorem c_DecN (k : Nat) : ∀ n : Int, 0 ≤ n → n ≤ 9223372036854775807 → n.toNat = k → pc 18 [.v false [vI n]] (ret1 (.st (vS (itoaS n)))) := by
  induction k using Nat.strongRecOn with
  | _ k ih => exact fun n h0 h1 hk => c_DecS n h0 h1 fun h => ih (n / 10).toNat (by omega) (n / 10) (by omega) (by omega) rfl
theorem c_Dec (n : Int) (h0 : -9223372036854775808 ≤ n) (h1 : n ≤ 9223372036854775807) : pc 18 [.v false [vI n]] (ret1 (.st (vS (itoaS n)))) := by
  by_cases hn : 0 ≤ n
  · exact c_DecN _ n hn h1 rfl
  refine ⟨enters Tryd.func18 (by kernel_rfl) (by kernel_rfl), pc_of tok Tryd.func18 rfl (by rfl) ?_⟩
  obtain ⟨j, hj⟩ : ∃ j : J, j = std Tryd.prog T := ⟨_, rfl⟩
  have hm : Tryd.prog.follows .mixedOrders = true := by kernel_rfl
  have hc : ¬ n = -9223372036854775808 → pc 18 [.v false [vI (-n)]] (ret1 (.st (vS (itoaS (-n))))) := fun h => c_DecN _ (-n) (by omega) (by omega) rfl
  have e5 : ¬ n = -9223372036854775808 → arithI .sub .i64 0 n = -n := fun h => by rw [sub64 (by omega) (by omega)]; omega
  have hz : ¬ n = -9223372036854775808 → (itoaS (-n)).size ≤ 19 := fun h => itoa_few (by omega) (by omega)
  generalize y_itoaS : @itoaS = x_itoaS at *
  (repeat' first | (with_reducible refine tr_cut (fun h => ?_) (fun h => ?_) <;> (try simp (disch := omega) only [hj, std, cmpI, cmpB, satB, Bool.not_eq_true, Bool.not_eq_false, decide_eq_true_eq, decide_eq_false_iff_not, beq_iff_eq, bne_iff_ne, bne_eq_false_iff_eq, beq_eq_false_iff_ne, ne_eq, reduceCtorEq, not_true_eq_false, not_false_eq_true, pl0, if_true, cmpS_eq, cmpS_neq, Bool.not_eq_eq_eq_not, Bool.not_true, Bool.not_false, Bool.not_eq_true', add64, sub64] at h) <;> (try (exfalso; omega))) | (with_reducible refine tr_alt (fun h => ?_) ?_ <;> (try (exfalso; omega))) | (with_reducible refine tr_ob ?_ ?_) | (with_reducible refine tr_done ?_) | (refine aw_dr1 (id := 8) hj tok hm (bookD x_itoaS) true [(0, false), (1, false), (3, false), (4, false), (5, false), (6, false), (7, false), (8, false), (9, false), (2, true), (10, true), (11, true)] (by kernel_rfl) (by cbv) ?_) | (refine aw_dr (id := 8) hj tok hm (bookD x_itoaS) true [(0, false), (1, false), (3, false), (4, false), (5, false), (6, false), (7, false), (8, false), (9, false), (2, true), (10, true), (11, true)] (by kernel_rfl) (by cbv) ?_) | (refine aw_tr hj tok (bookD x_itoaS) (by cbv) ?_) | (refine aw_seq fun K hK => ?_) | (refine aw_tr1 hj tok (bookD x_itoaS) (by cbv) ?_) | (refine aw_condj (by cbv) (fun h => ?_) (fun h => ?_) <;> (try simp (disch := omega) only [hj, std, cmpI, cmpB, satB, Bool.not_eq_true, Bool.not_eq_false, decide_eq_true_eq, decide_eq_false_iff_not, beq_iff_eq, bne_iff_ne, bne_eq_false_iff_eq, beq_eq_false_iff_ne, ne_eq, reduceCtorEq, not_true_eq_false, not_false_eq_true, pl0, if_true, cmpS_eq, cmpS_neq, Bool.not_eq_eq_eq_not, Bool.not_true, Bool.not_false, Bool.not_eq_true', add64, sub64] at h) <;> (try (exfalso; omega))) | (refine aw_skip ?_) | (refine aw_block ?_) | (refine aw_exit ?_) | (refine aw_ret ⟨.inr rfl, ret_okj hj (by cbv) ?_ ?_⟩) | (refine aw_ret ?_) | (with_reducible refine th_n ?_) | (with_reducible refine th_r ?_) | (with_reducible refine th_x ?_) | (with_reducible refine blk_n ?_) | (with_reducible refine blk_r ?_) | (with_reducible refine blk_x ?_) | (with_reducible refine blk_y rfl ?_) | (refine ⟨.inr rfl, ret_okj hj (by cbv) ?_ ?_⟩) | (refine ⟨.inl rfl, ret_okj hj (by cbv) ?_ ?_⟩) | ((with_reducible refine ⟨(_, _, _, _, _, _, _), by cbv, ?_, ?_⟩)) | ((with_reducible refine ⟨(_, _, _, _, _, _), by cbv, ?_, ?_⟩)) | ((with_reducible refine ⟨(_, _, _, _, _), by cbv, ?_, ?_⟩)) | ((with_reducible refine ⟨(_, _, _, _), by cbv, ?_, ?_⟩)) | ((with_reducible refine ⟨(_, _, _), by cbv, ?_, ?_⟩)) | ((with_reducible refine ⟨(_, _), by cbv, ?_, ?_⟩)) | ((with_reducible refine ⟨_, by cbv, ?_, ?_⟩)) | (with_reducible apply_assumption -symm -exfalso only [*]))
  all_goals ((try subst y_itoaS))
  all_goals (try (repeat' first | with_reducible exact obl0 | with_reducible refine obl1 ?_ ?_))
  all_goals (try first | with_reducible exact True.intro | (refine ob_pc hj ?_; (try rw [hj]); first | exact (by have q := hc (by omega); rw [← e5 (by omega)] at q; exact q)) | (refine ob_le hj ?_; (first | omega | (simp only [hj, std]; split <;> omega) | (simp (disch := omega) only [hj, std, cmpI, cmpB, satB, add64, sub64, ite0, pl0, pl2, pl3, sb0, if_true, if_false, eq_self] <;> omega) | (simp (disch := omega) [hj, std, cmpI, cmpB, satB, add64, sub64, ite0, pl0, pl2, pl3, sb0, if_true, if_false, eq_self] <;> omega))) | (refine ob_lei hj ?_; (first | omega | (simp only [hj, std]; split <;> omega) | (simp (disch := omega) only [hj, std, cmpI, cmpB, satB, add64, sub64, ite0, pl0, pl2, pl3, sb0, if_true, if_false, eq_self] <;> omega) | (simp (disch := omega) [hj, std, cmpI, cmpB, satB, add64, sub64, ite0, pl0, pl2, pl3, sb0, if_true, if_false, eq_self] <;> omega))) | (refine ob_inb hj ?_; (first | omega | (simp only [hj, std]; split <;> omega) | (simp (disch := omega) only [hj, std, cmpI, cmpB, satB, add64, sub64, ite0, pl0, pl2, pl3, sb0, if_true, if_false, eq_self] <;> omega) | (simp (disch := omega) [hj, std, cmpI, cmpB, satB, add64, sub64, ite0, pl0, pl2, pl3, sb0, if_true, if_false, eq_self] <;> omega))) | (refine ob_pos hj ?_; (first | omega | (simp only [hj, std]; split <;> omega) | (simp (disch := omega) only [hj, std, cmpI, cmpB, satB, add64, sub64, ite0, pl0, pl2, pl3, sb0, if_true, if_false, eq_self] <;> omega) | (simp (disch := omega) [hj, std, cmpI, cmpB, satB, add64, sub64, ite0, pl0, pl2, pl3, sb0, if_true, if_false, eq_self] <;> omega))) | (refine ob_ne0 hj ?_; (first | omega | (simp only [hj, std]; split <;> omega) | (simp (disch := omega) only [hj, std, cmpI, cmpB, satB, add64, sub64, ite0, pl0, pl2, pl3, sb0, if_true, if_false, eq_self] <;> omega) | (simp (disch := omega) [hj, std, cmpI, cmpB, satB, add64, sub64, ite0, pl0, pl2, pl3, sb0, if_true, if_false, eq_self] <;> omega))) | (refine ob_eqb hj ?_; (first | rfl | first | omega | (simp only [hj, std]; split <;> omega) | (simp (disch := omega) only [hj, std, cmpI, cmpB, satB, add64, sub64, ite0, pl0, pl2, pl3, sb0, if_true, if_false, eq_self] <;> omega) | (simp (disch := omega) [hj, std, cmpI, cmpB, satB, add64, sub64, ite0, pl0, pl2, pl3, sb0, if_true, if_false, eq_self] <;> omega))) | ((refine ob_le hj ?_; simp only [hj, std]; rw [e5 (by omega)]; have q := hz (by omega); have q2 : (⟨⟨[45]⟩⟩ : ByteArray).size = 1 := rfl; omega)) | ((refine ret1_s ?_; have q := ‹n = -9223372036854775808›; rw [q]; exact itoa_min.symm)) | ((refine ret1_s ?_; simp only [hj, std]; rw [e5 (by omega)]; exact (itoa_neg (by omega)).symm)))
end Go.Proofs.YtljnfejcdadjpaaDoor.A
