/- What the laws of this seat need, part 5. -/
import Derived.Test.YtnmlcfjljeccnaaMz4
/- Layer 9's law: what an act does: a crash, what is put, dropped, moved. -/
set_option linter.unusedSimpArgs false
set_option linter.unusedVariables false
set_option maxRecDepth 100000
set_option maxHeartbeats 4000000
namespace Go.Proofs.Ytnmlcfjljeccnaa.A
open Go
theorem pc_do4 (m1 m2 m3 : GM) (n : Nat) (os : List C) (N1 N2 N3 M : Nat) (D1 D2 D3 E : List C) (x y : ByteArray) (q : Int) (kn : Nat) (ks : List C)
  (cC : PC Try.prog T 36 [.root (dBox m1 m2 n os), .v false [.sl kn ks]] ⟨true, []⟩ [dBox m3 m3 0 [], .none])
  (cR : PC Try.prog T 63 [.v true [.sl N1 D1, .sl N2 D2, .sl N3 D3], .v false [.sl kn ks]] ⟨false, [(true, [.st (.sl M E), .st (.sl M E), .st .nil])]⟩ []) :
  PC Try.prog T 31 [.root (dBox m1 m2 n os), .v true [.sl N1 D1, .sl N2 D2, .sl N3 D3], .v true [vI 4, vS x, vS y, vI q, .sl kn ks]] (doRet M E M E 0 [] true) [dBox m3 m3 0 [], .none, .none] := by
 have cC : (std Try.prog T).pc 36 [.root (dBox m1 m2 n os), .v false [.sl kn ks]] ⟨true, []⟩ [dBox m3 m3 0 [], .none] := ⟨enters Try.func36 (by kernel_rfl) (by kernel_rfl), cC⟩
 have cR : (std Try.prog T).pc 63 [.v true [.sl N1 D1, .sl N2 D2, .sl N3 D3], .v false [.sl kn ks]] ⟨false, [(true, [.st (.sl M E), .st (.sl M E), .st .nil])]⟩ [] := ⟨enters Try.func63 (by kernel_rfl) (by kernel_rfl), cR⟩
 refine pc_of tok Try.func31 rfl (by rfl) ?_
 obtain ⟨j, hj⟩ : ∃ j : J, j = std Try.prog T := ⟨_, rfl⟩
 have hm : Try.prog.follows .mixedOrders = true := by kernel_rfl
 (repeat' first | (refine ⟨.inr rfl, ret_oku3 hj (by cbv) (by cbv) rfl ?_ ?_ (upd_of ?_)⟩) | ((first | with_reducible refine tr_cut (fun h => ?_) (fun h => ?_) | refine aw_condj (by cbv) (fun h => ?_) (fun h => ?_)) <;> (try simp (disch := omega) only [hj, std, cmpI, cmpB, satB, Bool.not_eq_true, Bool.not_eq_false, decide_eq_true_eq, decide_eq_false_iff_not, beq_iff_eq, bne_iff_ne, bne_eq_false_iff_eq, beq_eq_false_iff_ne, ne_eq, reduceCtorEq, not_true_eq_false, not_false_eq_true, pl0, if_true, cmpS_eq, cmpS_neq, Bool.not_eq_eq_eq_not, Bool.not_true, Bool.not_false, Bool.not_eq_true', add64, sub64] at h) <;> (try (exfalso; omega))) | (with_reducible refine tr_alt (fun h => ?_) ?_ <;> (try (exfalso; omega))) | (with_reducible first | refine tr_ob ?_ ?_ | refine tr_done ?_) | (refine aw_tr hj tok (bookDA true true m3 m3 0 [] M E M E 0 []) (by cbv) ?_) | (refine aw_seq fun K hK => ?_) | (refine aw_tr1 hj tok (bookDA true true m3 m3 0 [] M E M E 0 []) (by cbv) ?_) | (refine aw_skip ?_) | (refine aw_block ?_) | (refine aw_exit ?_) | (refine aw_ret ⟨.inr rfl, ret_okj hj (by cbv) ?_ ?_⟩) | (refine aw_ret ?_) | (with_reducible first | refine th_n ?_ | refine th_r ?_ | refine th_x ?_ | refine blk_n ?_ | refine blk_r ?_ | refine blk_x ?_ | refine blk_y rfl ?_) | (refine ⟨.inr rfl, ret_okj hj (by cbv) ?_ ?_⟩) | (refine ⟨.inl rfl, ret_okj hj (by cbv) ?_ ?_⟩) | (with_reducible apply_assumption -symm -exfalso only [*]))
 all_goals (try (repeat' first | with_reducible exact obl0 | with_reducible refine obl1 ?_ ?_))
 all_goals (try first | with_reducible exact True.intro | ((first | refine ob_pc hj ?_ | refine ob_pcn hj ?_); (try rw [hj]); first | exact cC | exact cR) | ((first | refine ob_le hj ?_ | refine ob_lei hj ?_ | refine ob_inb hj ?_ | refine ob_pos hj ?_ | refine ob_ne0 hj ?_ | refine ob_eqb hj ?_); (first | rfl | first | omega | (simp only [hj, std]; split <;> omega) | (simp (disch := omega) only [hj, std, cmpI, cmpB, satB, add64, sub64, ite0, pl0, pl2, pl3, sb0, if_true, if_false, eq_self] <;> omega) | (simp (disch := omega) [hj, std, cmpI, cmpB, satB, add64, sub64, ite0, pl0, pl2, pl3, sb0, if_true, if_false, eq_self] <;> omega))) | (exact rfl) | ((refine upd_box ?_ (upd_none (upd_none (upd_nil _))); exact rfl)))
theorem pc_do0 (b my : Bool) (m1 m2 m1' m2' : GM) (n n' : Nat) (os os' : List C) (N1 N2 N3 M1 M2 M3 : Nat) (D1 D2 D3 E1 E2 E3 : List C) (x y : ByteArray) (q : Int) (kn : Nat) (ks : List C)
  (cP : PC Try.prog T 60 [.root (dBox m1 m2 n os), .v false [vS x], .v false [vI q]] (ret1 (.st (vB b))) [dBox m1' m2' n' os', .none, .none])
  (cM : PC Try.prog T 65 [.v false [.sl N1 D1], .v true [vI 0, vS x, vS y, vI q]] (ret1 (.st (vB my))) [])
  (cD : my = true → PC Try.prog T 66 [.v true [.sl N1 D1, .sl N2 D2, .sl N3 D3], .v true [vI 0, vS x, vS y, vI q]] ⟨false, [(true, [.st (.sl M1 E1), .st (.sl M2 E2), .st (.sl M3 E3)])]⟩ []) :
  PC Try.prog T 31 [.root (dBox m1 m2 n os), .v true [.sl N1 D1, .sl N2 D2, .sl N3 D3], .v true [vI 0, vS x, vS y, vI q, .sl kn ks]] (if my = true then doRet M1 E1 M2 E2 M3 E3 b else doRet N1 D1 N2 D2 N3 D3 (!b)) [dBox m1' m2' n' os', .none, .none] := by
 have cP : (std Try.prog T).pc 60 [.root (dBox m1 m2 n os), .v false [vS x], .v false [vI q]] (ret1 (.st (vB b))) [dBox m1' m2' n' os', .none, .none] := ⟨enters Try.func60 (by kernel_rfl) (by kernel_rfl), cP⟩
 have cM : (std Try.prog T).pc 65 [.v false [.sl N1 D1], .v true [vI 0, vS x, vS y, vI q]] (ret1 (.st (vB my))) [] := ⟨enters Try.func65 (by kernel_rfl) (by kernel_rfl), cM⟩
 have cD : my = true → (std Try.prog T).pc 66 [.v true [.sl N1 D1, .sl N2 D2, .sl N3 D3], .v true [vI 0, vS x, vS y, vI q]] ⟨false, [(true, [.st (.sl M1 E1), .st (.sl M2 E2), .st (.sl M3 E3)])]⟩ [] := fun h => ⟨enters Try.func66 (by kernel_rfl) (by kernel_rfl), cD h⟩
 cases my with
 | true =>
  have cD := cD rfl
  rw [if_pos rfl]
  refine pc_of tok Try.func31 rfl (by rfl) ?_
  obtain ⟨j, hj⟩ : ∃ j : J, j = std Try.prog T := ⟨_, rfl⟩
  have hm : Try.prog.follows .mixedOrders = true := by kernel_rfl
  (repeat' first | (refine ⟨.inr rfl, ret_oku hj (by cbv) (by cbv) rfl ?_ ?_ (upd_of ?_)⟩) | (refine ⟨.inl rfl, ret_oku hj (by cbv) (by cbv) rfl ?_ ?_ (upd_of ?_)⟩) | ((first | with_reducible refine tr_cut (fun h => ?_) (fun h => ?_) | refine aw_condj (by cbv) (fun h => ?_) (fun h => ?_)) <;> (try simp (disch := omega) only [hj, std, cmpI, cmpB, satB, Bool.not_eq_true, Bool.not_eq_false, decide_eq_true_eq, decide_eq_false_iff_not, beq_iff_eq, bne_iff_ne, bne_eq_false_iff_eq, beq_eq_false_iff_ne, ne_eq, reduceCtorEq, not_true_eq_false, not_false_eq_true, pl0, if_true, cmpS_eq, cmpS_neq, Bool.not_eq_eq_eq_not, Bool.not_true, Bool.not_false, Bool.not_eq_true', add64, sub64] at h) <;> (try (exfalso; omega))) | (with_reducible refine tr_alt (fun h => ?_) ?_ <;> (try (exfalso; omega))) | (with_reducible first | refine tr_ob ?_ ?_ | refine tr_done ?_) | (refine aw_tr hj tok (bookDA b true m1' m2' n' os' M1 E1 M2 E2 M3 E3) (by cbv) ?_) | (refine aw_seq fun K hK => ?_) | (refine aw_tr1 hj tok (bookDA b true m1' m2' n' os' M1 E1 M2 E2 M3 E3) (by cbv) ?_) | (refine aw_skip ?_) | (refine aw_block ?_) | (refine aw_exit ?_) | (refine aw_ret ⟨.inr rfl, ret_okj hj (by cbv) ?_ ?_⟩) | (refine aw_ret ?_) | (with_reducible first | refine th_n ?_ | refine th_r ?_ | refine th_x ?_ | refine blk_n ?_ | refine blk_r ?_ | refine blk_x ?_ | refine blk_y rfl ?_) | (refine ⟨.inr rfl, ret_okj hj (by cbv) ?_ ?_⟩) | (refine ⟨.inl rfl, ret_okj hj (by cbv) ?_ ?_⟩) | (with_reducible apply_assumption -symm -exfalso only [*]))
  all_goals (try (repeat' first | with_reducible exact obl0 | (with_reducible refine obl1 ?_ ?_)))
  all_goals (try first | with_reducible exact True.intro | ((first | refine ob_pc hj ?_ | refine ob_pcn hj ?_); (try rw [hj]); first | exact cP | exact cM | exact cD) | ((first | refine ob_le hj ?_ | refine ob_lei hj ?_ | refine ob_inb hj ?_ | refine ob_pos hj ?_ | refine ob_ne0 hj ?_ | refine ob_eqb hj ?_); (first | rfl | first | omega | (simp only [hj, std]; split <;> omega) | (simp (disch := omega) only [hj, std, cmpI, cmpB, satB, add64, sub64, ite0, pl0, pl2, pl3, sb0, if_true, if_false, eq_self] <;> omega) | (simp (disch := omega) [hj, std, cmpI, cmpB, satB, add64, sub64, ite0, pl0, pl2, pl3, sb0, if_true, if_false, eq_self] <;> omega))) | (exact rfl) | ((refine upd_box ?_ (upd_none (upd_none (upd_nil _))); exact rfl)))
 | false =>
  clear cD
  rw [if_neg (by decide)]
  refine pc_of tok Try.func31 rfl (by rfl) ?_
  obtain ⟨j, hj⟩ : ∃ j : J, j = std Try.prog T := ⟨_, rfl⟩
  have hm : Try.prog.follows .mixedOrders = true := by kernel_rfl
  (repeat' first | (refine ⟨.inr rfl, ret_oku hj (by cbv) (by cbv) rfl ?_ ?_ (upd_of ?_)⟩) | (refine ⟨.inl rfl, ret_oku hj (by cbv) (by cbv) rfl ?_ ?_ (upd_of ?_)⟩) | ((first | with_reducible refine tr_cut (fun h => ?_) (fun h => ?_) | refine aw_condj (by cbv) (fun h => ?_) (fun h => ?_)) <;> (try simp (disch := omega) only [hj, std, cmpI, cmpB, satB, Bool.not_eq_true, Bool.not_eq_false, decide_eq_true_eq, decide_eq_false_iff_not, beq_iff_eq, bne_iff_ne, bne_eq_false_iff_eq, beq_eq_false_iff_ne, ne_eq, reduceCtorEq, not_true_eq_false, not_false_eq_true, pl0, if_true, cmpS_eq, cmpS_neq, Bool.not_eq_eq_eq_not, Bool.not_true, Bool.not_false, Bool.not_eq_true', add64, sub64] at h) <;> (try (exfalso; omega))) | (with_reducible refine tr_alt (fun h => ?_) ?_ <;> (try (exfalso; omega))) | (with_reducible first | refine tr_ob ?_ ?_ | refine tr_done ?_) | (refine aw_tr hj tok (bookDA b false m1' m2' n' os' M1 E1 M2 E2 M3 E3) (by cbv) ?_) | (refine aw_seq fun K hK => ?_) | (refine aw_tr1 hj tok (bookDA b false m1' m2' n' os' M1 E1 M2 E2 M3 E3) (by cbv) ?_) | (refine aw_skip ?_) | (refine aw_block ?_) | (refine aw_exit ?_) | (refine aw_ret ⟨.inr rfl, ret_okj hj (by cbv) ?_ ?_⟩) | (refine aw_ret ?_) | (with_reducible first | refine th_n ?_ | refine th_r ?_ | refine th_x ?_ | refine blk_n ?_ | refine blk_r ?_ | refine blk_x ?_ | refine blk_y rfl ?_) | (refine ⟨.inr rfl, ret_okj hj (by cbv) ?_ ?_⟩) | (refine ⟨.inl rfl, ret_okj hj (by cbv) ?_ ?_⟩) | (with_reducible apply_assumption -symm -exfalso only [*]))
  all_goals (try (repeat' first | with_reducible exact obl0 | with_reducible refine obl1 ?_ ?_))
  all_goals (try first | with_reducible exact True.intro | ((first | refine ob_pc hj ?_ | refine ob_pcn hj ?_); (try rw [hj]); first | exact cP | exact cM) | ((first | refine ob_le hj ?_ | refine ob_lei hj ?_ | refine ob_inb hj ?_ | refine ob_pos hj ?_ | refine ob_ne0 hj ?_ | refine ob_eqb hj ?_); (first | rfl | first | omega | (simp only [hj, std]; split <;> omega) | (simp (disch := omega) only [hj, std, cmpI, cmpB, satB, add64, sub64, ite0, pl0, pl2, pl3, sb0, if_true, if_false, eq_self] <;> omega) | (simp (disch := omega) [hj, std, cmpI, cmpB, satB, add64, sub64, ite0, pl0, pl2, pl3, sb0, if_true, if_false, eq_self] <;> omega))) | ((rw [hj]; exact rfl)) | ((refine upd_box ?_ (upd_none (upd_none (upd_nil _))); exact rfl)))
theorem pc_do1 (b my : Bool) (m1 m2 m1' m2' : GM) (n n' : Nat) (os os' : List C) (N1 N2 N3 M1 M2 M3 : Nat) (D1 D2 D3 E1 E2 E3 : List C) (x y : ByteArray) (q : Int) (kn : Nat) (ks : List C)
  (cP : PC Try.prog T 64 [.root (dBox m1 m2 n os), .v false [vS x]] (ret1 (.st (vB b))) [dBox m1' m2' n' os', .none])
  (cM : PC Try.prog T 65 [.v false [.sl N1 D1], .v true [vI 1, vS x, vS y, vI q]] (ret1 (.st (vB my))) [])
  (cD : my = true → PC Try.prog T 66 [.v true [.sl N1 D1, .sl N2 D2, .sl N3 D3], .v true [vI 1, vS x, vS y, vI q]] ⟨false, [(true, [.st (.sl M1 E1), .st (.sl M2 E2), .st (.sl M3 E3)])]⟩ []) :
  PC Try.prog T 31 [.root (dBox m1 m2 n os), .v true [.sl N1 D1, .sl N2 D2, .sl N3 D3], .v true [vI 1, vS x, vS y, vI q, .sl kn ks]] (if my = true then doRet M1 E1 M2 E2 M3 E3 b else doRet N1 D1 N2 D2 N3 D3 (!b)) [dBox m1' m2' n' os', .none, .none] := by
 have cP : (std Try.prog T).pc 64 [.root (dBox m1 m2 n os), .v false [vS x]] (ret1 (.st (vB b))) [dBox m1' m2' n' os', .none] := ⟨enters Try.func64 (by kernel_rfl) (by kernel_rfl), cP⟩
 have cM : (std Try.prog T).pc 65 [.v false [.sl N1 D1], .v true [vI 1, vS x, vS y, vI q]] (ret1 (.st (vB my))) [] := ⟨enters Try.func65 (by kernel_rfl) (by kernel_rfl), cM⟩
 have cD : my = true → (std Try.prog T).pc 66 [.v true [.sl N1 D1, .sl N2 D2, .sl N3 D3], .v true [vI 1, vS x, vS y, vI q]] ⟨false, [(true, [.st (.sl M1 E1), .st (.sl M2 E2), .st (.sl M3 E3)])]⟩ [] := fun h => ⟨enters Try.func66 (by kernel_rfl) (by kernel_rfl), cD h⟩
 cases my with
 | true =>
  have cD := cD rfl
  rw [if_pos rfl]
  refine pc_of tok Try.func31 rfl (by rfl) ?_
  obtain ⟨j, hj⟩ : ∃ j : J, j = std Try.prog T := ⟨_, rfl⟩
  have hm : Try.prog.follows .mixedOrders = true := by kernel_rfl
  (repeat' first | (refine ⟨.inr rfl, ret_oku hj (by cbv) (by cbv) rfl ?_ ?_ (upd_of ?_)⟩) | (refine ⟨.inl rfl, ret_oku hj (by cbv) (by cbv) rfl ?_ ?_ (upd_of ?_)⟩) | ((first | with_reducible refine tr_cut (fun h => ?_) (fun h => ?_) | refine aw_condj (by cbv) (fun h => ?_) (fun h => ?_)) <;> (try simp (disch := omega) only [hj, std, cmpI, cmpB, satB, Bool.not_eq_true, Bool.not_eq_false, decide_eq_true_eq, decide_eq_false_iff_not, beq_iff_eq, bne_iff_ne, bne_eq_false_iff_eq, beq_eq_false_iff_ne, ne_eq, reduceCtorEq, not_true_eq_false, not_false_eq_true, pl0, if_true, cmpS_eq, cmpS_neq, Bool.not_eq_eq_eq_not, Bool.not_true, Bool.not_false, Bool.not_eq_true', add64, sub64] at h) <;> (try (exfalso; omega))) | (with_reducible refine tr_alt (fun h => ?_) ?_ <;> (try (exfalso; omega))) | (with_reducible first | refine tr_ob ?_ ?_ | refine tr_done ?_) | (refine aw_tr hj tok (bookDA b true m1' m2' n' os' M1 E1 M2 E2 M3 E3) (by cbv) ?_) | (refine aw_seq fun K hK => ?_) | (refine aw_tr1 hj tok (bookDA b true m1' m2' n' os' M1 E1 M2 E2 M3 E3) (by cbv) ?_) | (refine aw_skip ?_) | (refine aw_block ?_) | (refine aw_exit ?_) | (refine aw_ret ⟨.inr rfl, ret_okj hj (by cbv) ?_ ?_⟩) | (refine aw_ret ?_) | (with_reducible first | refine th_n ?_ | refine th_r ?_ | refine th_x ?_ | refine blk_n ?_ | refine blk_r ?_ | refine blk_x ?_ | refine blk_y rfl ?_) | (refine ⟨.inr rfl, ret_okj hj (by cbv) ?_ ?_⟩) | (refine ⟨.inl rfl, ret_okj hj (by cbv) ?_ ?_⟩) | (with_reducible apply_assumption -symm -exfalso only [*]))
  all_goals (try (repeat' first | with_reducible exact obl0 | (with_reducible refine obl1 ?_ ?_)))
  all_goals (try first | with_reducible exact True.intro | ((first | refine ob_pc hj ?_ | refine ob_pcn hj ?_); (try rw [hj]); first | exact cP | exact cM | exact cD) | ((first | refine ob_le hj ?_ | refine ob_lei hj ?_ | refine ob_inb hj ?_ | refine ob_pos hj ?_ | refine ob_ne0 hj ?_ | refine ob_eqb hj ?_); (first | rfl | first | omega | (simp only [hj, std]; split <;> omega) | (simp (disch := omega) only [hj, std, cmpI, cmpB, satB, add64, sub64, ite0, pl0, pl2, pl3, sb0, if_true, if_false, eq_self] <;> omega) | (simp (disch := omega) [hj, std, cmpI, cmpB, satB, add64, sub64, ite0, pl0, pl2, pl3, sb0, if_true, if_false, eq_self] <;> omega))) | (exact rfl) | ((refine upd_box ?_ (upd_none (upd_none (upd_nil _))); exact rfl)))
 | false =>
  clear cD
  rw [if_neg (by decide)]
  refine pc_of tok Try.func31 rfl (by rfl) ?_
  obtain ⟨j, hj⟩ : ∃ j : J, j = std Try.prog T := ⟨_, rfl⟩
  have hm : Try.prog.follows .mixedOrders = true := by kernel_rfl
  (repeat' first | (refine ⟨.inr rfl, ret_oku hj (by cbv) (by cbv) rfl ?_ ?_ (upd_of ?_)⟩) | (refine ⟨.inl rfl, ret_oku hj (by cbv) (by cbv) rfl ?_ ?_ (upd_of ?_)⟩) | ((first | with_reducible refine tr_cut (fun h => ?_) (fun h => ?_) | refine aw_condj (by cbv) (fun h => ?_) (fun h => ?_)) <;> (try simp (disch := omega) only [hj, std, cmpI, cmpB, satB, Bool.not_eq_true, Bool.not_eq_false, decide_eq_true_eq, decide_eq_false_iff_not, beq_iff_eq, bne_iff_ne, bne_eq_false_iff_eq, beq_eq_false_iff_ne, ne_eq, reduceCtorEq, not_true_eq_false, not_false_eq_true, pl0, if_true, cmpS_eq, cmpS_neq, Bool.not_eq_eq_eq_not, Bool.not_true, Bool.not_false, Bool.not_eq_true', add64, sub64] at h) <;> (try (exfalso; omega))) | (with_reducible refine tr_alt (fun h => ?_) ?_ <;> (try (exfalso; omega))) | (with_reducible first | refine tr_ob ?_ ?_ | refine tr_done ?_) | (refine aw_tr hj tok (bookDA b false m1' m2' n' os' M1 E1 M2 E2 M3 E3) (by cbv) ?_) | (refine aw_seq fun K hK => ?_) | (refine aw_tr1 hj tok (bookDA b false m1' m2' n' os' M1 E1 M2 E2 M3 E3) (by cbv) ?_) | (refine aw_skip ?_) | (refine aw_block ?_) | (refine aw_exit ?_) | (refine aw_ret ⟨.inr rfl, ret_okj hj (by cbv) ?_ ?_⟩) | (refine aw_ret ?_) | (with_reducible first | refine th_n ?_ | refine th_r ?_ | refine th_x ?_ | refine blk_n ?_ | refine blk_r ?_ | refine blk_x ?_ | refine blk_y rfl ?_) | (refine ⟨.inr rfl, ret_okj hj (by cbv) ?_ ?_⟩) | (refine ⟨.inl rfl, ret_okj hj (by cbv) ?_ ?_⟩) | (with_reducible apply_assumption -symm -exfalso only [*]))
  all_goals (try (repeat' first | with_reducible exact obl0 | with_reducible refine obl1 ?_ ?_))
  all_goals (try first | with_reducible exact True.intro | ((first | refine ob_pc hj ?_ | refine ob_pcn hj ?_); (try rw [hj]); first | exact cP | exact cM) | ((first | refine ob_le hj ?_ | refine ob_lei hj ?_ | refine ob_inb hj ?_ | refine ob_pos hj ?_ | refine ob_ne0 hj ?_ | refine ob_eqb hj ?_); (first | rfl | first | omega | (simp only [hj, std]; split <;> omega) | (simp (disch := omega) only [hj, std, cmpI, cmpB, satB, add64, sub64, ite0, pl0, pl2, pl3, sb0, if_true, if_false, eq_self] <;> omega) | (simp (disch := omega) [hj, std, cmpI, cmpB, satB, add64, sub64, ite0, pl0, pl2, pl3, sb0, if_true, if_false, eq_self] <;> omega))) | ((rw [hj]; exact rfl)) | ((refine upd_box ?_ (upd_none (upd_none (upd_nil _))); exact rfl)))
theorem pc_do2 (b my : Bool) (m1 m2 m1' m2' : GM) (n n' : Nat) (os os' : List C) (N1 N2 N3 M1 M2 M3 : Nat) (D1 D2 D3 E1 E2 E3 : List C) (kd : Int) (x y : ByteArray) (q : Int) (kn : Nat) (ks : List C) (h0 : kd ≠ 0) (h1 : kd ≠ 1) (h3 : kd ≠ 3) (h4 : kd ≠ 4)
  (cP : PC Try.prog T 62 [.root (dBox m1 m2 n os), .v false [vS x], .v false [vS y]] (ret1 (.st (vB b))) [dBox m1' m2' n' os', .none, .none])
  (cM : PC Try.prog T 65 [.v false [.sl N1 D1], .v true [vI 2, vS x, vS y, vI q]] (ret1 (.st (vB my))) [])
  (cD : my = true → PC Try.prog T 66 [.v true [.sl N1 D1, .sl N2 D2, .sl N3 D3], .v true [vI 2, vS x, vS y, vI q]] ⟨false, [(true, [.st (.sl M1 E1), .st (.sl M2 E2), .st (.sl M3 E3)])]⟩ []) :
  PC Try.prog T 31 [.root (dBox m1 m2 n os), .v true [.sl N1 D1, .sl N2 D2, .sl N3 D3], .v true [vI kd, vS x, vS y, vI q, .sl kn ks]] (if my = true then doRet M1 E1 M2 E2 M3 E3 b else doRet N1 D1 N2 D2 N3 D3 (!b)) [dBox m1' m2' n' os', .none, .none] := by
 have cP : (std Try.prog T).pc 62 [.root (dBox m1 m2 n os), .v false [vS x], .v false [vS y]] (ret1 (.st (vB b))) [dBox m1' m2' n' os', .none, .none] := ⟨enters Try.func62 (by kernel_rfl) (by kernel_rfl), cP⟩
 have cM : (std Try.prog T).pc 65 [.v false [.sl N1 D1], .v true [vI 2, vS x, vS y, vI q]] (ret1 (.st (vB my))) [] := ⟨enters Try.func65 (by kernel_rfl) (by kernel_rfl), cM⟩
 have cD : my = true → (std Try.prog T).pc 66 [.v true [.sl N1 D1, .sl N2 D2, .sl N3 D3], .v true [vI 2, vS x, vS y, vI q]] ⟨false, [(true, [.st (.sl M1 E1), .st (.sl M2 E2), .st (.sl M3 E3)])]⟩ [] := fun h => ⟨enters Try.func66 (by kernel_rfl) (by kernel_rfl), cD h⟩
 cases my with
 | true =>
  have cD := cD rfl
  rw [if_pos rfl]
  refine pc_of tok Try.func31 rfl (by rfl) ?_
  obtain ⟨j, hj⟩ : ∃ j : J, j = std Try.prog T := ⟨_, rfl⟩
  have hm : Try.prog.follows .mixedOrders = true := by kernel_rfl
  (repeat' first | (refine ⟨.inr rfl, ret_oku hj (by cbv) (by cbv) rfl ?_ ?_ (upd_of ?_)⟩) | (refine ⟨.inl rfl, ret_oku hj (by cbv) (by cbv) rfl ?_ ?_ (upd_of ?_)⟩) | ((first | with_reducible refine tr_cut (fun h => ?_) (fun h => ?_) | refine aw_condj (by cbv) (fun h => ?_) (fun h => ?_)) <;> (try simp (disch := omega) only [hj, std, cmpI, cmpB, satB, Bool.not_eq_true, Bool.not_eq_false, decide_eq_true_eq, decide_eq_false_iff_not, beq_iff_eq, bne_iff_ne, bne_eq_false_iff_eq, beq_eq_false_iff_ne, ne_eq, reduceCtorEq, not_true_eq_false, not_false_eq_true, pl0, if_true, cmpS_eq, cmpS_neq, Bool.not_eq_eq_eq_not, Bool.not_true, Bool.not_false, Bool.not_eq_true', add64, sub64] at h) <;> (try (exfalso; omega))) | (with_reducible refine tr_alt (fun h => ?_) ?_ <;> (try (exfalso; omega))) | (with_reducible first | refine tr_ob ?_ ?_ | refine tr_done ?_) | (refine aw_tr hj tok (bookDA b true m1' m2' n' os' M1 E1 M2 E2 M3 E3) (by cbv) ?_) | (refine aw_seq fun K hK => ?_) | (refine aw_tr1 hj tok (bookDA b true m1' m2' n' os' M1 E1 M2 E2 M3 E3) (by cbv) ?_) | (refine aw_skip ?_) | (refine aw_block ?_) | (refine aw_exit ?_) | (refine aw_ret ⟨.inr rfl, ret_okj hj (by cbv) ?_ ?_⟩) | (refine aw_ret ?_) | (with_reducible first | refine th_n ?_ | refine th_r ?_ | refine th_x ?_ | refine blk_n ?_ | refine blk_r ?_ | refine blk_x ?_ | refine blk_y rfl ?_) | (refine ⟨.inr rfl, ret_okj hj (by cbv) ?_ ?_⟩) | (refine ⟨.inl rfl, ret_okj hj (by cbv) ?_ ?_⟩) | (with_reducible apply_assumption -symm -exfalso only [*]))
  all_goals (try (repeat' first | with_reducible exact obl0 | (with_reducible refine obl1 ?_ ?_)))
  all_goals (try first | with_reducible exact True.intro | ((first | refine ob_pc hj ?_ | refine ob_pcn hj ?_); (try rw [hj]); first | exact cP | exact cM | exact cD) | ((first | refine ob_le hj ?_ | refine ob_lei hj ?_ | refine ob_inb hj ?_ | refine ob_pos hj ?_ | refine ob_ne0 hj ?_ | refine ob_eqb hj ?_); (first | rfl | first | omega | (simp only [hj, std]; split <;> omega) | (simp (disch := omega) only [hj, std, cmpI, cmpB, satB, add64, sub64, ite0, pl0, pl2, pl3, sb0, if_true, if_false, eq_self] <;> omega) | (simp (disch := omega) [hj, std, cmpI, cmpB, satB, add64, sub64, ite0, pl0, pl2, pl3, sb0, if_true, if_false, eq_self] <;> omega))) | ((exact absurd (by assumption) h0)) | ((exact absurd (by assumption) h1)) | ((exact absurd (by assumption) h3)) | ((exact absurd (by assumption) h4)) | (exact rfl) | ((refine upd_box ?_ (upd_none (upd_none (upd_nil _))); exact rfl)))
 | false =>
  clear cD
  rw [if_neg (by decide)]
  refine pc_of tok Try.func31 rfl (by rfl) ?_
  obtain ⟨j, hj⟩ : ∃ j : J, j = std Try.prog T := ⟨_, rfl⟩
  have hm : Try.prog.follows .mixedOrders = true := by kernel_rfl
  (repeat' first | (refine ⟨.inr rfl, ret_oku hj (by cbv) (by cbv) rfl ?_ ?_ (upd_of ?_)⟩) | (refine ⟨.inl rfl, ret_oku hj (by cbv) (by cbv) rfl ?_ ?_ (upd_of ?_)⟩) | ((first | with_reducible refine tr_cut (fun h => ?_) (fun h => ?_) | refine aw_condj (by cbv) (fun h => ?_) (fun h => ?_)) <;> (try simp (disch := omega) only [hj, std, cmpI, cmpB, satB, Bool.not_eq_true, Bool.not_eq_false, decide_eq_true_eq, decide_eq_false_iff_not, beq_iff_eq, bne_iff_ne, bne_eq_false_iff_eq, beq_eq_false_iff_ne, ne_eq, reduceCtorEq, not_true_eq_false, not_false_eq_true, pl0, if_true, cmpS_eq, cmpS_neq, Bool.not_eq_eq_eq_not, Bool.not_true, Bool.not_false, Bool.not_eq_true', add64, sub64] at h) <;> (try (exfalso; omega))) | (with_reducible refine tr_alt (fun h => ?_) ?_ <;> (try (exfalso; omega))) | (with_reducible first | refine tr_ob ?_ ?_ | refine tr_done ?_) | (refine aw_tr hj tok (bookDA b false m1' m2' n' os' M1 E1 M2 E2 M3 E3) (by cbv) ?_) | (refine aw_seq fun K hK => ?_) | (refine aw_tr1 hj tok (bookDA b false m1' m2' n' os' M1 E1 M2 E2 M3 E3) (by cbv) ?_) | (refine aw_skip ?_) | (refine aw_block ?_) | (refine aw_exit ?_) | (refine aw_ret ⟨.inr rfl, ret_okj hj (by cbv) ?_ ?_⟩) | (refine aw_ret ?_) | (with_reducible first | refine th_n ?_ | refine th_r ?_ | refine th_x ?_ | refine blk_n ?_ | refine blk_r ?_ | refine blk_x ?_ | refine blk_y rfl ?_) | (refine ⟨.inr rfl, ret_okj hj (by cbv) ?_ ?_⟩) | (refine ⟨.inl rfl, ret_okj hj (by cbv) ?_ ?_⟩) | (with_reducible apply_assumption -symm -exfalso only [*]))
  all_goals (try (repeat' first | with_reducible exact obl0 | with_reducible refine obl1 ?_ ?_))
  all_goals (try first | with_reducible exact True.intro | ((first | refine ob_pc hj ?_ | refine ob_pcn hj ?_); (try rw [hj]); first | exact cP | exact cM) | ((first | refine ob_le hj ?_ | refine ob_lei hj ?_ | refine ob_inb hj ?_ | refine ob_pos hj ?_ | refine ob_ne0 hj ?_ | refine ob_eqb hj ?_); (first | rfl | first | omega | (simp only [hj, std]; split <;> omega) | (simp (disch := omega) only [hj, std, cmpI, cmpB, satB, add64, sub64, ite0, pl0, pl2, pl3, sb0, if_true, if_false, eq_self] <;> omega) | (simp (disch := omega) [hj, std, cmpI, cmpB, satB, add64, sub64, ite0, pl0, pl2, pl3, sb0, if_true, if_false, eq_self] <;> omega))) | ((exact absurd (by assumption) h0)) | ((exact absurd (by assumption) h1)) | ((exact absurd (by assumption) h3)) | ((exact absurd (by assumption) h4)) | ((rw [hj]; exact rfl)) | ((refine upd_box ?_ (upd_none (upd_none (upd_nil _))); exact rfl)))
end Go.Proofs.Ytnmlcfjljeccnaa.A
/- Layer 9, the plain law: a map and a list of names that tell the same. -/
set_option linter.unusedSimpArgs false
set_option linter.unusedVariables false
set_option maxRecDepth 100000
set_option maxHeartbeats 4000000
namespace Go.Proofs.Ytnmlcfjljeccnaa.A
open Go
def eF (k : Value) (c : C) : Nm := (unS k, gi c)
def eZ (ks : List Value) (vs : List C) : List Nm := List.zipWith eF ks vs
def E (m : GM) : List Nm := eZ m.ks m.vs
def KStr (m : GM) : Prop := ∀ k ∈ m.ks, ∃ s, k = .string s
abbrev kys (l : List Nm) : List ByteArray := l.map Prod.fst
theorem eZ_len (ks : List Value) (vs : List C) (h : vs.length = ks.length) : (eZ ks vs).length = ks.length := by unfold eZ; rw [List.length_zipWith, h]; omega
theorem eZ_keys : ∀ (ks : List Value) (vs : List C), vs.length = ks.length → kys (eZ ks vs) = ks.map unS
 | [], _, _ => rfl
 | k :: ks, [], h => absurd h (by simp)
 | k :: ks, v :: vs, h => by
  show unS k :: kys (eZ ks vs) = _
  rw [eZ_keys ks vs (by simpa using h)]; rfl
theorem eZ_set : ∀ (ks : List Value) (vs : List C) (i : Nat) (v : C) (k : Value), vs.length = ks.length → ks[i]? = some k → eZ ks (vs.set i v) = (eZ ks vs).set i (unS k, gi v)
 | [], _, i, v, k, _, h => by simp at h
 | k0 :: ks, [], _, _, _, h, _ => absurd h (by simp)
 | k0 :: ks, v0 :: vs, 0, v, k, h, hk => by
  simp only [List.getElem?_cons_zero, Option.some.injEq] at hk
  subst hk; rfl
 | k0 :: ks, v0 :: vs, i + 1, v, k, h, hk => by
  show eF k0 v0 :: eZ ks (vs.set i v) = eF k0 v0 :: (eZ ks vs).set i (unS k, gi v)
  rw [eZ_set ks vs i v k (by simpa using h) (by simpa using hk)]
theorem eZ_cut : ∀ (ks : List Value) (vs : List C) (i : Nat), vs.length = ks.length → eZ (ks.eraseIdx i) (vs.eraseIdx i) = (eZ ks vs).eraseIdx i
 | [], [], i, _ => by simp [eZ]
 | [], v :: vs, _, h => absurd h (by simp)
 | k0 :: ks, [], _, h => absurd h (by simp)
 | k0 :: ks, v0 :: vs, 0, h => rfl
 | k0 :: ks, v0 :: vs, i + 1, h => by
  show eF k0 v0 :: eZ (ks.eraseIdx i) (vs.eraseIdx i) = eF k0 v0 :: (eZ ks vs).eraseIdx i
  rw [eZ_cut ks vs i (by simpa using h)]
theorem eZ_app (ks : List Value) (vs : List C) (k : Value) (v : C) (h : vs.length = ks.length) : eZ (ks ++ [k]) (vs ++ [v]) = eZ ks vs ++ [(unS k, gi v)] := by
 unfold eZ
 rw [List.zipWith_append h.symm]; rfl
theorem set_cut {α : Type} : ∀ (l : List α) (i : Nat) (a : α), i < l.length → (l.set i a).Perm (a :: l.eraseIdx i)
 | [], i, a, h => absurd h (by simp)
 | b :: l, 0, a, h => List.Perm.refl _
 | b :: l, i + 1, a, h => ((set_cut l i a (by simpa using h)).cons b).trans (List.Perm.swap _ _ _)
theorem won_all {l : List Nm} {x : ByteArray} (h : x ∉ kys l) : wonL l x = l := List.filter_eq_self.2 fun p hp => by
 have : p.1 ≠ x := fun e => h (by rw [← e]; exact List.mem_map.2 ⟨p, hp, rfl⟩)
 simpa using this
theorem cut_won {x : ByteArray} : ∀ (l : List Nm) (i : Nat), (kys l).Nodup → (h : i < l.length) → l[i].1 = x → l.eraseIdx i = wonL l x
  | [], i, _, h, _ => absurd h (by simp)
  | p :: l, 0, hn, _, hx => by
    have hn2 := List.nodup_cons.1 hn
    have hx2 : p.1 = x := hx
    have e : wonL (p :: l) x = wonL l x := by unfold wonL; rw [List.filter_cons_of_neg (by simpa using hx2)]
    rw [e, won_all (by rw [← hx2]; exact hn2.1)]; rfl
  | p :: l, i + 1, hn, h, hx => by
    have hn2 := List.nodup_cons.1 hn
    have hi : i < l.length := by simpa using h
    have hx2 : l[i].1 = x := hx
    have hp : p.1 ≠ x := fun e => hn2.1 (by
      show p.1 ∈ kys l
      rw [e, ← hx2]; exact List.mem_map.2 ⟨l[i], List.getElem_mem hi, rfl⟩)
    have e : wonL (p :: l) x = p :: wonL l x := by unfold wonL; rw [List.filter_cons_of_pos (by simpa using hp)]
    rw [e, ← cut_won l i hn2.2 hi hx2]; rfl
theorem kidx_no {ks : List Value} {x : ByteArray} (h : kidx ks (.string x) = none) (hs : ∀ k ∈ ks, ∃ s, k = .string s) : x ∉ ks.map unS := fun hx => by
 obtain ⟨k, hk, he⟩ := List.mem_map.1 hx
 obtain ⟨s, rfl⟩ := hs k hk
 have h2 := List.findIdx?_eq_none_iff.1 h _ hk
 rw [(keq_str x _).2 (by rw [← he]; rfl)] at h2
 cases h2
theorem E_len (m : GM) : (E m).length = m.ks.length := eZ_len _ _ m.l1
theorem E_keys (m : GM) : kys (E m) = m.ks.map unS := eZ_keys _ _ m.l1
theorem kS_E (m : GM) : kS m = kys (E m) := (E_keys m).symm
theorem E_at {m : GM} {i : Nat} {x : ByteArray} (h : kidx m.ks (.string x) = some i) : ∃ hi : i < (E m).length, (E m)[i].1 = x ∧ (E m)[i].2 = gi (m.vs.getD i (vI 0)) := by
 obtain ⟨h1, h2⟩ := kidx_some h
 have hv : i < m.vs.length := by rw [m.l1]; exact h1
 have hz : i < (List.zipWith eF m.ks m.vs).length := by rw [List.length_zipWith]; omega
 refine ⟨by rw [E_len]; exact h1, ?_, ?_⟩
 ·show (List.zipWith eF m.ks m.vs)[i].1 = x
  rw [List.getElem_zipWith, eF, h2]; rfl
 ·show (List.zipWith eF m.ks m.vs)[i].2 = _
  rw [List.getElem_zipWith, eF, List.getD_eq_getElem?_getD, List.getElem?_eq_getElem hv]; rfl
theorem E_has {m : GM} (hs : KStr m) (x : ByteArray) : hasD m x = true ↔ x ∈ kys (E m) := by
 unfold hasD mhasC
 cases h : kidx m.ks (.string x) with
 | none =>
  have := kidx_no h hs
  rw [E_keys]
  simp only [Option.isSome_none, Bool.false_eq_true, false_iff]; exact this
 | some i =>
  obtain ⟨hi, h1, _⟩ := E_at h
  simp only [Option.isSome_some, true_iff]
  rw [← h1]; exact List.mem_map.2 ⟨_, List.getElem_mem hi, rfl⟩
theorem E_get {m : GM} (hn : (kys (E m)).Nodup) {x : ByteArray} {v : Int} (h : (x, v) ∈ E m) (hs : KStr m) : getD m x = v := by
 unfold getD mgetC
 cases hk : kidx m.ks (.string x) with
 | none =>
  have := kidx_no hk hs
  rw [← E_keys] at this
  exact absurd (List.mem_map.2 ⟨_, h, rfl⟩) this
 | some i =>
  obtain ⟨hi, h1, h2⟩ := E_at hk
  obtain ⟨q, hq, he⟩ := List.mem_iff_getElem.1 h
  have e : i = q := by
   have hl : (kys (E m)).length = (E m).length := List.length_map ..
   have h3 : (kys (E m))[i]'(by omega) = (kys (E m))[q]'(by omega) := by simp only [List.getElem_map, h1, he]
   exact (List.getElem_inj hn).1 h3
  subst e
  dsimp only
  rw [← h2, he]
theorem get_no {m : GM} {x : ByteArray} (h : hasD m x = false) : getD m x = 0 := by
 unfold hasD mhasC at h
 unfold getD mgetC
 cases hk : kidx m.ks (.string x) with
 | none => rfl
 | some i => rw [hk] at h; cases h
theorem E_set {m : GM} (hn : (kys (E m)).Nodup) (hs : KStr m) (x : ByteArray) (n : Int) : (E (m.set (.string x) (vI n))).Perm ((x, n) :: wonL (E m) x) ∧ KStr (m.set (.string x) (vI n)) := by
 unfold GM.set
 cases hk : kidx m.ks (.string x) with
 | none =>
  have h0 := kidx_no hk hs
  rw [← E_keys] at h0
  refine ⟨?_, ?_⟩
  ·show (eZ (m.ks ++ [.string x]) (m.vs ++ [vI n])).Perm _
   rw [eZ_app _ _ _ _ m.l1, won_all h0]
   exact List.perm_append_comm
  ·intro k hk2
   rcases List.mem_append.1 (show k ∈ m.ks ++ [.string x] from hk2) with h | h
   ·exact hs k h
   ·exact ⟨x, List.mem_singleton.1 h⟩
 | some i =>
  obtain ⟨hi, h1, _⟩ := E_at hk
  obtain ⟨h2, h3⟩ := kidx_some hk
  refine ⟨?_, hs⟩
  show (eZ m.ks (m.vs.set i (vI n))).Perm _
  rw [eZ_set m.ks m.vs i (vI n) (.string x) m.l1 (by rw [List.getElem?_eq_getElem h2, h3]), ← cut_won (E m) i hn hi h1]
  exact set_cut (E m) i _ hi
theorem E_del {m : GM} (hn : (kys (E m)).Nodup) (hs : KStr m) (x : ByteArray) : E (m.del (.string x)) = wonL (E m) x ∧ KStr (m.del (.string x)) := by
 unfold GM.del
 cases hk : kidx m.ks (.string x) with
 | none =>
  have h0 := kidx_no hk hs
  rw [← E_keys] at h0
  exact ⟨(won_all h0).symm, hs⟩
 | some i =>
  obtain ⟨hi, h1, _⟩ := E_at hk
  refine ⟨?_, fun k hk2 => hs k (List.mem_of_mem_eraseIdx hk2)⟩
  show eZ (m.ks.eraseIdx i) (m.vs.eraseIdx i) = _
  rw [eZ_cut _ _ _ m.l1, ← cut_won (E m) i hn hi h1]; rfl
/-! ### lists in order -/
abbrev Ord (l : List Nm) : Prop := l.Pairwise fun p q => ltS p.1 q.1 = true
theorem Ord.nodup {l : List Nm} (h : Ord l) : (kys l).Nodup := by
 unfold List.Nodup
 rw [List.pairwise_map]
 exact h.imp fun h e => by rw [e, ltS_irr] at h; cases h
theorem Ord.won {l : List Nm} (h : Ord l) (x : ByteArray) : Ord (wonL l x) := h.sublist (List.filter_sublist ..)
def insP (x : ByteArray) (n : Int) : List Nm → List Nm
 | [] => [(x, n)]
 | p :: l => if ltS x p.1 = true then (x, n) :: p :: l else p :: insP x n l
theorem put_done {x : ByteArray} {n : Int} : ∀ (l acc : List Nm), l.foldl (putSt x n) (acc, true) = (acc ++ l, true)
 | [], acc => by simp
 | p :: l, acc => by
  have e : putSt x n (acc, true) p = (acc ++ [p], true) := rfl
  rw [List.foldl_cons, e, put_done l]; simp
theorem put_go {x : ByteArray} {n : Int} : ∀ (l acc : List Nm), (let r := l.foldl (putSt x n) (acc, false); if r.2 = true then r.1 else r.1 ++ [(x, n)]) = acc ++ insP x n l
 | [], acc => by simp [insP]
 | p :: l, acc => by
  by_cases h : ltS x p.1 = true
  ·have e : putSt x n (acc, false) p = (acc ++ [(x, n), p], true) := by unfold putSt; rw [if_pos ⟨rfl, h⟩]
   simp only [List.foldl_cons, e, put_done, insP, if_pos h, if_true]
   simp
  ·have e : putSt x n (acc, false) p = (acc ++ [p], false) := by unfold putSt; rw [if_neg (fun hh => h hh.2)]
   have := put_go (x := x) (n := n) l (acc ++ [p])
   simp only [List.foldl_cons, e, insP, if_neg h]
   rw [this]; simp
theorem wi_ins (l : List Nm) (x : ByteArray) (n : Int) : wiL l x n = insP x n (wonL l x) := by
 have := put_go (x := x) (n := n) (wonL l x) []
 rw [List.nil_append] at this
 exact this
theorem ins_perm (x : ByteArray) (n : Int) : ∀ l : List Nm, (insP x n l).Perm ((x, n) :: l)
 | [] => List.Perm.refl _
 | p :: l => by
  unfold insP
  split
  ·exact List.Perm.refl _
  ·exact ((ins_perm x n l).cons p).trans (List.Perm.swap _ _ _)
theorem ins_ord {x : ByteArray} {n : Int} : ∀ {l : List Nm}, Ord l → x ∉ kys l → Ord (insP x n l)
 | [], _, _ => List.pairwise_singleton _ _
 | p :: l, h, hx => by
  obtain ⟨h1, h2⟩ := List.pairwise_cons.1 h
  have hp : x ≠ p.1 := fun e => hx (by rw [e]; exact List.mem_cons_self ..)
  have hl : x ∉ kys l := fun e => hx (List.mem_cons_of_mem _ e)
  unfold insP
  split
  ·rename_i hlt
   refine List.pairwise_cons.2 ⟨fun q hq => ?_, h⟩
   rcases List.mem_cons.1 hq with rfl | hq
   ·exact hlt
   ·exact ltS_trans hlt (h1 q hq)
  ·rename_i hlt
   refine List.pairwise_cons.2 ⟨fun q hq => ?_, ins_ord h2 hl⟩
   rcases List.mem_cons.1 ((ins_perm x n l).mem_iff.1 hq) with rfl | hq
   ·exact ltS_tri (by simpa using hlt) hp
   ·exact h1 q hq
theorem won_keys {l : List Nm} {x : ByteArray} : x ∉ kys (wonL l x) := fun h => by
 obtain ⟨p, hp, he⟩ := List.mem_map.1 h
 have := (List.mem_filter.1 hp).2
 simp at this
 exact this he
theorem wi_ord {l : List Nm} (h : Ord l) (x : ByteArray) (n : Int) : Ord (wiL l x n) := by rw [wi_ins]; exact ins_ord (h.won x) won_keys
theorem wi_perm (l : List Nm) (x : ByteArray) (n : Int) : (wiL l x n).Perm ((x, n) :: wonL l x) := by rw [wi_ins]; exact ins_perm ..
theorem find_has (l : List Nm) (x : ByteArray) : (0 ≤ findL l x) ↔ x ∈ kys l := by
 unfold findL
 cases h : l.findIdx? fun p => decide (p.1 = x) with
 | none =>
  have := List.findIdx?_eq_none_iff.1 h
  refine ⟨fun h => absurd h (by simp), fun hx => ?_⟩
  obtain ⟨p, hp, he⟩ := List.mem_map.1 hx
  have := this p hp
  simp at this
  exact absurd he this
 | some i =>
  obtain ⟨h1, h2, _⟩ := List.findIdx?_eq_some_iff_getElem.1 h
  refine ⟨fun _ => List.mem_map.2 ⟨_, List.getElem_mem h1, by simpa using h2⟩, fun _ => ?_⟩
  simp
theorem find_at {l : List Nm} {x : ByteArray} (h : 0 ≤ findL l x) : (x, (nAt l (findL l x).toNat).2) ∈ l := by
 unfold findL at h ⊢
 cases hf : l.findIdx? fun p => decide (p.1 = x) with
 | none => rw [hf] at h; exact absurd h (by simp)
 | some i =>
  obtain ⟨h1, h2, _⟩ := List.findIdx?_eq_some_iff_getElem.1 hf
  have e : l[i].1 = x := by simpa using h2
  simp only [Int.toNat_natCast]
  rw [nAt_get h1, ← e]
  exact List.getElem_mem h1
/-! ### the same in both -/
structure RelD (m : GM) (l : List Nm) : Prop where
 mi : MI m
 ks : KStr m
 pm : (E m).Perm l
 od : Ord l
theorem RelD.nodup {m : GM} {l : List Nm} (h : RelD m l) : (kys (E m)).Nodup := (h.pm.map Prod.fst).nodup_iff.2 h.od.nodup
theorem RelD.new : RelD GM.new [] := ⟨MI.new, fun k h => (by cases h), List.Perm.refl _, List.Pairwise.nil⟩
theorem RelD.has {m : GM} {l : List Nm} (h : RelD m l) (x : ByteArray) : hasD m x = true ↔ 0 ≤ findL l x := by
 rw [E_has h.ks, find_has]; exact (h.pm.map Prod.fst).mem_iff
theorem RelD.get {m : GM} {l : List Nm} (h : RelD m l) {x : ByteArray} {v : Int} (hv : (x, v) ∈ l) : getD m x = v := E_get h.nodup (h.pm.mem_iff.2 hv) h.ks
theorem RelD.len {m : GM} {l : List Nm} (h : RelD m l) : m.ks.length = l.length := by rw [← E_len, h.pm.length_eq]
theorem RelD.set {m : GM} {l : List Nm} (h : RelD m l) (x : ByteArray) (n : Int) : RelD (m.set (.string x) (vI n)) (wiL l x n) := by
 obtain ⟨h1, h2⟩ := E_set h.nodup h.ks x n
 exact ⟨h.mi.set _ _, h2, h1.trans (((h.pm.filter _).cons _).trans (wi_perm l x n).symm), wi_ord h.od x n⟩
theorem RelD.del {m : GM} {l : List Nm} (h : RelD m l) (x : ByteArray) : RelD (m.del (.string x)) (wonL l x) := by
 obtain ⟨h1, h2⟩ := E_del h.nodup h.ks x
 exact ⟨h.mi.del _, h2, by rw [h1]; exact h.pm.filter _, h.od.won x⟩
theorem RelD.ap {m : GM} {l : List Nm} (h : RelD m l) {kd : Int} (hk : kd = 0 ∨ kd = 1 ∨ kd = 2) {x y y' : ByteArray} {q q' : Int} (hy : kd = 2 → y = y') (hq : kd = 0 → q = q') : RelD (apM m kd x y q) (apL l kd x y' q') := by
 rcases hk with rfl | rfl | rfl
 ·unfold apM apL
  rw [if_pos rfl, if_pos rfl, hq rfl]; exact h.set x q'
 ·unfold apM apL
  rw [if_neg (by decide), if_pos rfl, if_neg (by decide), if_pos rfl]; exact h.del x
 ·have e1 : apM m 2 x y q = if mhasC m.ks (.string x) = true then (m.del (.string x)).set (.string y) (mgetC m.ks m.vs (.string x) (vI 0)) else m := by unfold apM; rw [if_neg (by decide), if_neg (by decide), if_pos rfl]
  have e2 : apL l 2 x y' q' = if findL l x < 0 then l else wiL (wonL l x) y' (nAt l (findL l x).toNat).2 := by unfold apL; rw [if_neg (by decide), if_neg (by decide)]
  rw [e1, e2, hy rfl]
  by_cases hh : hasD m x = true
  ·have h0 := (h.has x).1 hh
   rw [if_pos (show mhasC m.ks (.string x) = true from hh), if_neg (by omega), mget_int h.mi, h.get (find_at h0)]
   exact (h.del x).set _ _
  ·have h0 : ¬ 0 ≤ findL l x := fun hc => hh ((h.has x).2 hc)
   rw [if_neg (show ¬ mhasC m.ks (.string x) = true from hh), if_pos (by omega)]; exact h
theorem srt_set {l : List ByteArray} (h : Set' l) : srtS l = l := by
  have h1 : (l.map bL).mergeSort (fun x y => decide (x ≤ y)) = l.map bL := List.mergeSort_of_pairwise (by
    rw [List.pairwise_map]
    exact h.imp fun h => by simpa using List.le_of_lt (ltS_iff.1 h))
  unfold srtS
  rw [h1, List.map_map]
  simp [Function.comp_def, ofL_bL]
theorem RelD.names {m : GM} {l : List Nm} (h : RelD m l) : nsN m = l.length ∧ nsC m = sC (kys l) := by
 have h1 : (kS m).Perm (kys l) := by rw [kS_E]; exact h.pm.map _
 unfold nsN nsC
 have hs : Set' (kys l) := by
  show (l.map Prod.fst).Pairwise _
  rw [List.pairwise_map]; exact h.od
 rw [srtS_perm h1, srt_set hs, h1.length_eq, List.length_map]
 exact ⟨rfl, rfl⟩
end Go.Proofs.Ytnmlcfjljeccnaa.A
/- Layer 9: a directory and the reference's go through the same acts. -/
set_option linter.unusedSimpArgs false
set_option linter.unusedVariables false
set_option maxRecDepth 100000
set_option maxHeartbeats 4000000
namespace Go.Proofs.Ytnmlcfjljeccnaa.A
open Go
structure PD where
 m1 : GM
 m2 : GM
 n : Nat
 os : List C
structure RD where
 l1 : List Nm
 l2 : List Nm
 n : Nat
 ro : List C
theorem kp_ex (kn : Nat) (ks : List C) : ∀ n : Nat, ∃ kp, kp ≤ n ∧ (∀ i, i < kp → i < kn ∧ gb (cellAt ks i) = true) ∧ (kp = n ∨ ¬ (kp < kn ∧ gb (cellAt ks kp) = true))
 | 0 => ⟨0, Nat.le_refl _, fun i h => absurd h (by omega), .inl rfl⟩
 | n + 1 => by
  obtain ⟨kp, h1, h2, h3⟩ := kp_ex kn ks n
  by_cases h : kp = n ∧ kp < kn ∧ gb (cellAt ks kp) = true
  ·obtain ⟨rfl, h4, h5⟩ := h
   refine ⟨kp + 1, Nat.le_refl _, fun i hi => ?_, .inl rfl⟩
   by_cases e : i = kp
   ·subst e; exact ⟨h4, h5⟩
   ·exact h2 i (by omega)
  ·refine ⟨kp, by omega, h2, .inr fun hh => ?_⟩
   rcases h3 with h3 | h3
   ·exact h ⟨h3, hh⟩
   ·exact h3 hh
noncomputable def kpF (n kn : Nat) (ks : List C) : Nat := (kp_ex kn ks n).choose
theorem kpF_ok (n kn : Nat) (ks : List C) : kpF n kn ks ≤ n ∧ (∀ i, i < kpF n kn ks → i < kn ∧ gb (cellAt ks i) = true) ∧ (kpF n kn ks = n ∨ ¬ (kpF n kn ks < kn ∧ gb (cellAt ks (kpF n kn ks)) = true)) := (kp_ex kn ks n).choose_spec
abbrev kd2 (kd : Int) : Int := if kd = 0 then 0 else if kd = 1 then 1 else 2
noncomputable def stepR (d : RD) (kd : Int) (x y : ByteArray) (q : Int) (kn : Nat) (ks : List C) : RD :=
 if kd = 3 then ⟨d.l1, d.l1, 0, []⟩ else if kd = 4 then ⟨crN9 d.l2 d.ro (kpF d.n kn ks), crN9 d.l2 d.ro (kpF d.n kn ks), 0, []⟩
 else if mayL d.l1 (kd2 kd) x = true then (if kd2 kd = 2 ∧ x = y then d else ⟨apL d.l1 (kd2 kd) x y q, d.l2, d.n + 1, d.ro ++ [vI (kd2 kd), vS x, vS y, vI q]⟩) else d
def opSame (os ro : List C) (i : Nat) : Prop := gi (cellAt os (i * 4)) = gi (cellAt ro (i * 4)) ∧ (gi (cellAt os (i * 4)) = 0 ∨ gi (cellAt os (i * 4)) = 1 ∨ gi (cellAt os (i * 4)) = 2) ∧ gs (cellAt os (i * 4 + 1)) = gs (cellAt ro (i * 4 + 1)) ∧ (gi (cellAt os (i * 4)) = 2 → gs (cellAt os (i * 4 + 2)) = gs (cellAt ro (i * 4 + 2))) ∧ (gi (cellAt os (i * 4)) = 0 → gi (cellAt os (i * 4 + 3)) = gi (cellAt ro (i * 4 + 3)))
structure InvD (t : Nat) (p : PD) (d : RD) : Prop where
 r1 : RelD p.m1 d.l1
 r2 : RelD p.m2 d.l2
 hn : d.n = p.n
 oo : opOk p.n p.os
 ro : opOk d.n d.ro
 oz : opSz d.n d.ro
 sm : ∀ i, i < p.n → opSame p.os d.ro i
 al : crN9 d.l2 d.ro d.n = d.l1
 s1 : SzN d.l1
 s2 : SzN d.l2
 b1 : d.l1.length ≤ 2 * t
 b2 : d.l2.length + 2 * d.n ≤ 2 * t
 hv : ∀ c ∈ d.ro, ∃ v, c = .val v
theorem InvD.cr {t : Nat} {p : PD} {d : RD} (I : InvD t p d) : ∀ i, i ≤ p.n → RelD (crM p.m2 p.os i) (crN9 d.l2 d.ro i)
 | 0, _ => I.r2
 | i + 1, h => by
  obtain ⟨h1, h2, h3, h4, h5⟩ := I.sm i (by omega)
  have := (I.cr i (by omega)).ap h2 (x := gs (cellAt p.os (i * 4 + 1))) (y := gs (cellAt p.os (i * 4 + 2))) (q := gi (cellAt p.os (i * 4 + 3))) h4 h5
  rw [h3] at this
  show RelD (apM (crM p.m2 p.os i) (gi (cellAt p.os (i * 4))) (gs (cellAt p.os (i * 4 + 1))) (gs (cellAt p.os (i * 4 + 2))) (gi (cellAt p.os (i * 4 + 3)))) (apL (crN9 d.l2 d.ro i) (gi (cellAt d.ro (i * 4))) (gs (cellAt d.ro (i * 4 + 1))) (gs (cellAt d.ro (i * 4 + 2))) (gi (cellAt d.ro (i * 4 + 3))))
  rw [← h1, h3]; exact this
theorem ok_may {m : GM} {l : List Nm} (h : RelD m l) (kd : Int) (x : ByteArray) : okD m kd x = mayL l kd x := by
 unfold okD mayL
 have h1 := h.has x
 by_cases hf : 0 ≤ findL l x
 ·rw [h1.2 hf]
  by_cases hk : kd = 0 <;> simp [cmpB, cmpI, hf, hk]
 ·have h2 : hasD m x = false := by
   cases hh : hasD m x with
   | false => rfl
   | true => exact absurd (h1.1 hh) hf
  rw [h2]
  by_cases hk : kd = 0 <;> simp [cmpB, cmpI, hf, hk]
theorem cell_app {os l : List C} {k : Nat} (h : k < os.length) : cellAt (os ++ l) k = cellAt os k := by
 unfold cellAt
 rw [List.getD_eq_getElem?_getD, List.getD_eq_getElem?_getD, List.getElem?_append_left h]
theorem cell_new {os l : List C} {k r : Nat} (h : k = os.length + r) : cellAt (os ++ l) k = cellAt l r := by
 unfold cellAt
 rw [List.getD_eq_getElem?_getD, List.getD_eq_getElem?_getD, List.getElem?_append_right (by omega)]
 rw [show k - os.length = r by omega]
theorem op_new {n : Nat} {os : List C} (h : os.length = n * 4) (kd : Int) (x y : ByteArray) (q : Int) :
  cellAt (os ++ [vI kd, vS x, vS y, vI q]) (n * 4) = vI kd ∧ cellAt (os ++ [vI kd, vS x, vS y, vI q]) (n * 4 + 1) = vS x ∧ cellAt (os ++ [vI kd, vS x, vS y, vI q]) (n * 4 + 2) = vS y ∧ cellAt (os ++ [vI kd, vS x, vS y, vI q]) (n * 4 + 3) = vI q :=
 ⟨cell_new (r := 0) (by omega), cell_new (r := 1) (by omega), cell_new (r := 2) (by omega), cell_new (r := 3) (by omega)⟩
theorem opOk.snoc {n : Nat} {os : List C} (h : opOk n os) (kd : Int) (x y : ByteArray) (q : Int) : opOk (n + 1) (os ++ [vI kd, vS x, vS y, vI q]) := by
 obtain ⟨a0, a1, a2, a3⟩ := op_new h.1 kd x y q
 refine ⟨by rw [List.length_append, h.1]; simp; omega, fun i hi => ?_⟩
 by_cases e : i = n
 ·subst e
  rw [a0, a1, a2, a3]
  exact ⟨⟨_, rfl⟩, ⟨_, rfl⟩, ⟨_, rfl⟩, ⟨_, rfl⟩⟩
 ·have := h.1
  rw [cell_app (by omega), cell_app (by omega), cell_app (by omega), cell_app (by omega)]
  exact h.2 i (by omega)
theorem crN9_app {l : List Nm} {os ns : List C} {n : Nat} (h : os.length = n * 4) : ∀ i, i ≤ n → crN9 l (os ++ ns) i = crN9 l os i
 | 0, _ => rfl
 | i + 1, hi => by
  unfold crN9
  rw [crN9_app h i (by omega), cell_app (by omega), cell_app (by omega), cell_app (by omega), cell_app (by omega)]
theorem InvD.op {t : Nat} {p : PD} {d : RD} (I : InvD t p d) {kd : Int} (hk : kd = 0 ∨ kd = 1 ∨ kd = 2) {x y y' : ByteArray} {q q' : Int} (hy : kd = 2 → y = y') (hq : kd = 0 → q = q') (hx : x.size ≤ 20) (hy2 : y'.size ≤ 20) :
  InvD (t + 1) ⟨apM p.m1 kd x y q, p.m2, p.n + 1, p.os ++ [vI kd, vS x, vS y, vI q]⟩ ⟨apL d.l1 kd x y' q', d.l2, d.n + 1, d.ro ++ [vI kd, vS x, vS y', vI q']⟩ := by
 obtain ⟨a0, a1, a2, a3⟩ := op_new I.oo.1 kd x y q
 obtain ⟨c0, c1, c2, c3⟩ := op_new I.ro.1 kd x y' q'
 have hl := ap_len d.l1 kd x y' q'
 have b1 := I.b1
 have b2 := I.b2
 have hn := I.hn
 refine ⟨I.r1.ap hk hy hq, I.r2, ?_, I.oo.snoc .., I.ro.snoc .., fun i hi => ?_, fun i hi => ?_, ?_, I.s1.ap (by omega) (by omega), I.s2, ?_, ?_, fun c hc => ?_⟩
 ·show d.n + 1 = p.n + 1; rw [hn]
 ·by_cases e : i = d.n
  ·subst e; dsimp only; rw [c1, c2]; exact ⟨by show x.size ≤ 1000; omega, by show y'.size ≤ 1000; omega⟩
  ·have h1 := I.ro.1
   have hi : i < d.n + 1 := hi
   dsimp only
   rw [cell_app (by omega), cell_app (by omega)]
   exact I.oz i (by omega)
 ·have hi : i < p.n + 1 := hi
  by_cases e : i = p.n
  ·subst e
   rw [hn] at c0 c1 c2 c3
   dsimp only
   unfold opSame
   rw [a0, a1, a2, a3, c0, c1, c2, c3]
   exact ⟨rfl, hk, rfl, hy, hq⟩
  ·have h1 := I.ro.1
   have h2 := I.oo.1
   dsimp only
   unfold opSame
   rw [cell_app (by omega), cell_app (by omega), cell_app (by omega), cell_app (by omega), cell_app (by omega), cell_app (by omega), cell_app (by omega), cell_app (by omega)]
   exact I.sm i (by omega)
 ·show apL (crN9 d.l2 (d.ro ++ _) d.n) (gi (cellAt (d.ro ++ _) (d.n * 4))) (gs (cellAt (d.ro ++ _) (d.n * 4 + 1))) (gs (cellAt (d.ro ++ _) (d.n * 4 + 2))) (gi (cellAt (d.ro ++ _) (d.n * 4 + 3))) = _
  rw [c0, c1, c2, c3, crN9_app I.ro.1 d.n (Nat.le_refl _), I.al]; rfl
 ·show (apL d.l1 kd x y' q').length ≤ 2 * (t + 1); omega
 ·show d.l2.length + 2 * (d.n + 1) ≤ 2 * (t + 1); omega
 ·rcases List.mem_append.1 hc with hc | hc
  ·exact I.hv c hc
  ·simp at hc
   rcases hc with rfl | rfl | rfl | rfl <;> exact ⟨_, rfl⟩
theorem InvD.up {t : Nat} {p : PD} {d : RD} (I : InvD t p d) : InvD (t + 1) p d :=
 ⟨I.r1, I.r2, I.hn, I.oo, I.ro, I.oz, I.sm, I.al, I.s1, I.s2, by have := I.b1; omega, by have := I.b2; omega, I.hv⟩
theorem InvD.sync {t : Nat} {m : GM} {l : List Nm} (h : RelD m l) (hs : SzN l) (hl : l.length ≤ 2 * t) : InvD t ⟨m, m, 0, []⟩ ⟨l, l, 0, []⟩ :=
 ⟨h, h, rfl, ⟨rfl, fun i h => absurd h (by simp)⟩, ⟨rfl, fun i h => absurd h (by simp)⟩, fun i h => absurd h (by simp), fun i h => absurd h (by simp), rfl, hs, hs, hl, by show l.length + 2 * 0 ≤ 2 * t; omega, fun c h => by cases h⟩
theorem InvD.new : InvD 0 ⟨GM.new, GM.new, 0, []⟩ ⟨[], [], 0, []⟩ := InvD.sync RelD.new (fun p h => by cases h) (by simp)
end Go.Proofs.Ytnmlcfjljeccnaa.A
/- Layer 9's law: the contract of an act. -/
set_option linter.unusedSimpArgs false
set_option linter.unusedVariables false
set_option maxRecDepth 100000
set_option maxHeartbeats 4000000
namespace Go.Proofs.Ytnmlcfjljeccnaa.A
open Go
abbrev rArg (d : RD) : List C := [.sl (nN d.l1) (nC d.l1), .sl (nN d.l2) (nC d.l2), .sl d.n d.ro]
abbrev rRet (d : RD) : RV := doRet (nN d.l1) (nC d.l1) (nN d.l2) (nC d.l2) d.n d.ro true
abbrev pBox (p : PD) : Root := dBox p.m1 p.m2 p.n p.os
theorem do_step {t : Nat} {p : PD} {d : RD} (I : InvD t p d) (ht : t ≤ 40) (kd : Int) (x y : ByteArray) (q : Int) (kn : Nat) (ks : List C) (hx : x.size ≤ 20) (hy : y.size ≤ 20) (hk : ks.length = kn) (hb : kn ≤ 140737488355328) (hkb : ∀ i, i < kn → okK .bool (cellAt ks i)) :
  ∃ p', InvD (t + 1) p' (stepR d kd x y q kn ks) ∧ (std Try.prog T).pc 31 [.root (pBox p), .v true (rArg d), .v true [vI kd, vS x, vS y, vI q, .sl kn ks]] (rRet (stepR d kd x y q kn ks)) [pBox p', .none, .none] := by
 have b1 := I.b1
 have b2 := I.b2
 have hn := I.hn
 have go : ∀ {args : List Arg} {ret : RV} {upd : List Root}, PC Try.prog T 31 args ret upd → (std Try.prog T).pc 31 args ret upd := fun h => ⟨enters Try.func31 (by kernel_rfl) (by kernel_rfl), h⟩
 by_cases k3 : kd = 3
 ·subst k3
  have e : stepR d 3 x y q kn ks = ⟨d.l1, d.l1, 0, []⟩ := by unfold stepR; rw [if_pos rfl]
  rw [e]
  refine ⟨⟨p.m1, p.m1, 0, []⟩, InvD.sync I.r1 I.s1 (by omega), go ?_⟩
  exact pc_do3 _ _ _ _ _ _ _ _ _ _ _ _ _ _ _
 by_cases k4 : kd = 4
 ·subst k4
  have e : stepR d 4 x y q kn ks = ⟨crN9 d.l2 d.ro (kpF d.n kn ks), crN9 d.l2 d.ro (kpF d.n kn ks), 0, []⟩ := by unfold stepR; rw [if_neg (by decide), if_pos rfl]
  rw [e]
  obtain ⟨p1, p2, p3⟩ := kpF_ok d.n kn ks
  generalize kpF d.n kn ks = kp at *
  have hlen := crN9_len d.l2 d.ro kp
  refine ⟨⟨crM p.m2 p.os kp, crM p.m2 p.os kp, 0, []⟩, InvD.sync (I.cr kp (by omega)) (crN9_sz I.s2 I.oz kp p1) (by omega), go ?_⟩
  exact pc_do4 _ _ _ _ _ _ _ _ _ _ _ _ _ _ _ _ _ _ (pc_CrashD p.m1 p.m2 p.n kn kp p.os ks I.r2.mi (by omega) I.oo hb hk hkb (by omega) p2 (by rw [← hn]; exact p3))
   (pc_RCrash9 d.n kn kp _ _ d.ro ks d.l2 (by omega) (by omega) I.s2 I.ro I.oz hb hk hkb p1 p2 p3)
 by_cases k0 : kd = 0
 ·subst k0
  have hm := ok_may I.r1 0 x
  have cP := pc_PutD p.m1 p.m2 p.n p.os x q I.r1.mi (by omega)
  have cM := pc_May9 d.l1 0 q x y (by omega)
  rw [hm] at cP
  have e : stepR d 0 x y q kn ks = if mayL d.l1 0 x = true then ⟨apL d.l1 0 x y q, d.l2, d.n + 1, d.ro ++ [vI 0, vS x, vS y, vI q]⟩ else d := by
   unfold stepR
   rw [if_neg (by decide), if_neg (by decide)]
   have : kd2 0 = 0 := rfl
   rw [this, if_neg (c := (0 : Int) = 2 ∧ x = y) (fun h => absurd h.1 (by decide))]
  rw [e]
  cases hmy : mayL d.l1 0 x with
  | true =>
   rw [hmy] at cP cM hm
   rw [if_pos rfl]
   have e1 : nmD p.m1 0 x ByteArray.empty q = apM p.m1 0 x ByteArray.empty q := by unfold nmD; rw [if_pos hm]
   have e2 : nnD p.m1 0 x p.n = p.n + 1 := by unfold nnD; rw [if_pos hm]
   have e3 : noD p.m1 0 x ByteArray.empty q p.os = p.os ++ [vI 0, vS x, vS ByteArray.empty, vI q] := by unfold noD; rw [if_pos hm]
   rw [e1, e2, e3] at cP
   have := pc_do0 _ _ _ _ _ _ _ _ _ _ _ _ _ _ _ _ _ _ _ _ _ _ x y q kn ks cP cM fun _ => pc_RDo1 (nN d.l2) d.n (nC d.l2) d.ro d.l1 0 x y q (fun h => absurd h.1 (by decide)) (by omega) I.ro.1 (by omega) (by omega) (by omega) I.s1 I.hv
   rw [if_pos rfl] at this
   exact ⟨⟨_, _, _, _⟩, I.op (kd := 0) (.inl rfl) (fun h => absurd h (by decide)) (fun _ => rfl) hx hy, go this⟩
  | false =>
   rw [hmy] at cP cM hm
   rw [if_neg (by decide)]
   have hm2 : ¬ okD p.m1 0 x = true := by rw [hm]; decide
   have e1 : nmD p.m1 0 x ByteArray.empty q = p.m1 := by unfold nmD; rw [if_neg hm2]
   have e2 : nnD p.m1 0 x p.n = p.n := by unfold nnD; rw [if_neg hm2]
   have e3 : noD p.m1 0 x ByteArray.empty q p.os = p.os := by unfold noD; rw [if_neg hm2]
   rw [e1, e2, e3] at cP
   have := pc_do0 _ _ _ _ _ _ _ _ _ _ (nN d.l1) (nN d.l2) d.n 0 0 0 (nC d.l1) (nC d.l2) d.ro [] [] [] x y q kn ks cP cM fun h => absurd h (by decide)
   rw [if_neg (by decide)] at this
   exact ⟨p, I.up, go this⟩
 by_cases k1 : kd = 1
 ·subst k1
  have hm := ok_may I.r1 1 x
  have cP := pc_DropD p.m1 p.m2 p.n p.os x I.r1.mi (by omega)
  have cM := pc_May9 d.l1 1 q x y (by omega)
  rw [hm] at cP
  have e : stepR d 1 x y q kn ks = if mayL d.l1 1 x = true then ⟨apL d.l1 1 x y q, d.l2, d.n + 1, d.ro ++ [vI 1, vS x, vS y, vI q]⟩ else d := by
   unfold stepR
   rw [if_neg (by decide), if_neg (by decide)]
   have : kd2 1 = 1 := rfl
   rw [this, if_neg (c := (1 : Int) = 2 ∧ x = y) (fun h => absurd h.1 (by decide))]
  rw [e]
  cases hmy : mayL d.l1 1 x with
  | true =>
   rw [hmy] at cP cM hm
   rw [if_pos rfl]
   have e1 : nmD p.m1 1 x ByteArray.empty 0 = apM p.m1 1 x ByteArray.empty 0 := by unfold nmD; rw [if_pos hm]
   have e2 : nnD p.m1 1 x p.n = p.n + 1 := by unfold nnD; rw [if_pos hm]
   have e3 : noD p.m1 1 x ByteArray.empty 0 p.os = p.os ++ [vI 1, vS x, vS ByteArray.empty, vI 0] := by unfold noD; rw [if_pos hm]
   rw [e1, e2, e3] at cP
   have := pc_do1 _ _ _ _ _ _ _ _ _ _ _ _ _ _ _ _ _ _ _ _ _ _ x y q kn ks cP cM fun _ => pc_RDo1 (nN d.l2) d.n (nC d.l2) d.ro d.l1 1 x y q (fun h => absurd h.1 (by decide)) (by omega) I.ro.1 (by omega) (by omega) (by omega) I.s1 I.hv
   rw [if_pos rfl] at this
   exact ⟨⟨_, _, _, _⟩, I.op (kd := 1) (.inr (.inl rfl)) (fun h => absurd h (by decide)) (fun h => absurd h (by decide)) hx hy, go this⟩
  | false =>
   rw [hmy] at cP cM hm
   rw [if_neg (by decide)]
   have hm2 : ¬ okD p.m1 1 x = true := by rw [hm]; decide
   have e1 : nmD p.m1 1 x ByteArray.empty 0 = p.m1 := by unfold nmD; rw [if_neg hm2]
   have e2 : nnD p.m1 1 x p.n = p.n := by unfold nnD; rw [if_neg hm2]
   have e3 : noD p.m1 1 x ByteArray.empty 0 p.os = p.os := by unfold noD; rw [if_neg hm2]
   rw [e1, e2, e3] at cP
   have := pc_do1 _ _ _ _ _ _ _ _ _ _ (nN d.l1) (nN d.l2) d.n 0 0 0 (nC d.l1) (nC d.l2) d.ro [] [] [] x y q kn ks cP cM fun h => absurd h (by decide)
   rw [if_neg (by decide)] at this
   exact ⟨p, I.up, go this⟩
 have hm := ok_may I.r1 2 x
 have cM := pc_May9 d.l1 2 q x y (by omega)
 have k2 : kd2 kd = 2 := by unfold kd2; rw [if_neg k0, if_neg k1]
 have e : stepR d kd x y q kn ks = if mayL d.l1 2 x = true then (if (2 : Int) = 2 ∧ x = y then d else ⟨apL d.l1 2 x y q, d.l2, d.n + 1, d.ro ++ [vI 2, vS x, vS y, vI q]⟩) else d := by
  unfold stepR
  rw [if_neg k3, if_neg k4, k2]
 rw [e]
 by_cases hxy : x = y
 ·subst hxy
  have cP := pc_MoveE p.m1 p.m2 p.n p.os x I.r1.mi
  have hh : hasD p.m1 x = mayL d.l1 2 x := by rw [← hm]; unfold okD; cases hasD p.m1 x <;> rfl
  rw [hh] at cP
  have e2 : (if mayL d.l1 2 x = true then (if (2 : Int) = 2 ∧ x = x then d else ⟨apL d.l1 2 x x q, d.l2, d.n + 1, d.ro ++ [vI 2, vS x, vS x, vI q]⟩) else d) = d := by
   split
   ·rw [if_pos ⟨rfl, rfl⟩]
   ·rfl
  rw [e2]
  refine ⟨p, I.up, ?_⟩
  cases hmy : mayL d.l1 2 x with
  | true =>
   rw [hmy] at cP cM
   have := pc_do2 _ _ _ _ _ _ _ _ _ _ (nN d.l1) (nN d.l2) d.n _ _ _ (nC d.l1) (nC d.l2) d.ro _ _ _ kd x x q kn ks k0 k1 k3 k4 cP cM fun _ => pc_RDo0 (nN d.l2) d.n (nC d.l2) d.ro d.l1 x q
   rw [if_pos rfl] at this
   exact go this
  | false =>
   rw [hmy] at cP cM
   have := pc_do2 _ _ _ _ _ _ _ _ _ _ (nN d.l1) (nN d.l2) d.n 0 0 0 (nC d.l1) (nC d.l2) d.ro [] [] [] kd x x q kn ks k0 k1 k3 k4 cP cM fun h => absurd h (by decide)
   rw [if_neg (by decide)] at this
   exact go this
 ·have cP := pc_MoveD p.m1 p.m2 p.n p.os x y I.r1.mi (by omega) hxy
  rw [hm] at cP
  rw [if_neg (c := (2 : Int) = 2 ∧ x = y) (fun h => hxy h.2)]
  cases hmy : mayL d.l1 2 x with
  | true =>
   rw [hmy] at cP cM hm
   rw [if_pos rfl]
   have e1 : nmD p.m1 2 x y 0 = apM p.m1 2 x y 0 := by unfold nmD; rw [if_pos hm]
   have e2 : nnD p.m1 2 x p.n = p.n + 1 := by unfold nnD; rw [if_pos hm]
   have e3 : noD p.m1 2 x y 0 p.os = p.os ++ [vI 2, vS x, vS y, vI 0] := by unfold noD; rw [if_pos hm]
   rw [e1, e2, e3] at cP
   have := pc_do2 _ _ _ _ _ _ _ _ _ _ _ _ _ _ _ _ _ _ _ _ _ _ kd x y q kn ks k0 k1 k3 k4 cP cM fun _ => pc_RDo1 (nN d.l2) d.n (nC d.l2) d.ro d.l1 2 x y q (fun h => hxy h.2) (by omega) I.ro.1 (by omega) (by omega) (by omega) I.s1 I.hv
   rw [if_pos rfl] at this
   exact ⟨⟨_, _, _, _⟩, I.op (kd := 2) (.inr (.inr rfl)) (fun _ => rfl) (fun h => absurd h (by decide)) hx hy, go this⟩
  | false =>
   rw [hmy] at cP cM hm
   rw [if_neg (by decide)]
   have hm2 : ¬ okD p.m1 2 x = true := by rw [hm]; decide
   have e1 : nmD p.m1 2 x y 0 = p.m1 := by unfold nmD; rw [if_neg hm2]
   have e2 : nnD p.m1 2 x p.n = p.n := by unfold nnD; rw [if_neg hm2]
   have e3 : noD p.m1 2 x y 0 p.os = p.os := by unfold noD; rw [if_neg hm2]
   rw [e1, e2, e3] at cP
   have := pc_do2 _ _ _ _ _ _ _ _ _ _ (nN d.l1) (nN d.l2) d.n 0 0 0 (nC d.l1) (nC d.l2) d.ro [] [] [] kd x y q kn ks k0 k1 k3 k4 cP cM fun h => absurd h (by decide)
   rw [if_neg (by decide)] at this
   exact ⟨p, I.up, go this⟩
end Go.Proofs.Ytnmlcfjljeccnaa.A
/- Layer 9's law: the chapter's example. -/
set_option linter.unusedSimpArgs false
set_option linter.unusedVariables false
set_option maxRecDepth 100000
set_option maxHeartbeats 4000000
namespace Go.Proofs.Ytnmlcfjljeccnaa.A
open Go
def awN : GM := GM.new
def awA : GM := apM GM.new 0 ⟨#[97]⟩ ByteArray.empty 7
def awB : GM := apM (apM GM.new 0 ⟨#[97]⟩ ByteArray.empty 7) 2 ⟨#[97]⟩ ⟨#[98]⟩ 0
abbrev awO1 : List C := [vI 0, vS ⟨#[97]⟩, vS ByteArray.empty, vI 7]
abbrev awO2 : List C := [vI 2, vS ⟨#[97]⟩, vS ⟨#[98]⟩, vI 0]
abbrev awO3 : List C := [vI 0, vS ⟨#[97]⟩, vS ByteArray.empty, vI 7, vI 2, vS ⟨#[97]⟩, vS ⟨#[98]⟩, vI 0]
def bookAw9 (x_nsN : GM → Nat) (x_nsC : GM → List C) (x_awN : GM) (x_awA : GM) (x_awB : GM) : Book := fun f xs => match f, xs with
 | 30, _ => some (⟨false, []⟩, [.box [.map .str x_awN, .map .str x_awN, .own oT 0 []]])
 | 60, _ => some (ret1 (.st (vB true)), [.box [.map .str x_awA, .map .str x_awN, .own oT 1 awO1], .none, .none])
 | 61, _ => some (⟨true, []⟩, [.box [.map .str x_awA, .map .str x_awA, .own oT 0 []]])
 | 62, [.root (.box [_, _, .own _ 0 _]), _, _] => some (ret1 (.st (vB true)), [.box [.map .str x_awB, .map .str x_awA, .own oT 1 awO2], .none, .none])
 | 62, [.root (.box [_, _, .own _ 1 _]), _, _] => some (ret1 (.st (vB true)), [.box [.map .str x_awB, .map .str x_awN, .own oT 2 awO3], .none, .none])
 | 36, [.root (.box [_, .map _ m, _]), _] => some (⟨true, []⟩, [.box [.map .str m, .map .str m, .own oT 0 []], .none])
 | 34, _ => some (⟨true, [(false, [.st (vI 7)]), (false, [.st (vB true)])]⟩, [.box [.map .str x_awA, .map .str x_awA, .own oT 0 []], .none])
 | 32, [.root (.box [.map _ m, .map _ m2, .own _ n os])] => some (ret1 (.own sT (x_nsN m) (x_nsC m)), [.box [.map .str m, .map .str m2, .own oT n os]])
 | _, _ => none
theorem c_NewD : (std Try.prog T).pcn 30 [] [.map .str GM.new, .map .str GM.new, .own oT 0 []] := ⟨enters Try.func30 (by kernel_rfl) (by kernel_rfl), pcn_NewD⟩
theorem pc_awake09 : PC Try.prog T 29 [] (ret1 (.st (vB true))) [] := by
 have hA : MI awA := MI.new.ap _ _ _ _
 have o1 : okD awN 0 ⟨#[97]⟩ = true := by decide
 have o2 : okD awA 2 ⟨#[97]⟩ = true := by decide
 have cP : (std Try.prog T).pc 60 [.root (dBox awN awN 0 []), .v false [vS ⟨#[97]⟩], .v false [vI 7]] (ret1 (.st (vB true))) [dBox awA awN 1 awO1, .none, .none] := by
  refine ⟨enters Try.func60 (by kernel_rfl) (by kernel_rfl), ?_⟩
  have := pc_PutD awN awN 0 [] ⟨#[97]⟩ 7 MI.new (by omega)
  rw [o1] at this
  have e1 : nmD awN 0 ⟨#[97]⟩ ByteArray.empty 7 = awA := by unfold nmD; rw [if_pos o1]; rfl
  have e2 : nnD awN 0 ⟨#[97]⟩ 0 = 1 := by unfold nnD; rw [if_pos o1]
  have e3 : noD awN 0 ⟨#[97]⟩ ByteArray.empty 7 [] = awO1 := by unfold noD; rw [if_pos o1]; rfl
  rw [e1, e2, e3] at this
  exact this
 have cS : (std Try.prog T).pc 61 [.root (dBox awA awN 1 awO1)] ⟨true, []⟩ [dBox awA awA 0 []] := ⟨enters Try.func61 (by kernel_rfl) (by kernel_rfl), pc_SyncD awA awN 1 awO1⟩
 have e1 : nmD awA 2 ⟨#[97]⟩ ⟨#[98]⟩ 0 = awB := by unfold nmD; rw [if_pos o2]; rfl
 have cM0 : (std Try.prog T).pc 62 [.root (dBox awA awA 0 []), .v false [vS ⟨#[97]⟩], .v false [vS ⟨#[98]⟩]] (ret1 (.st (vB true))) [dBox awB awA 1 awO2, .none, .none] := by
  refine ⟨enters Try.func62 (by kernel_rfl) (by kernel_rfl), ?_⟩
  have := pc_MoveD awA awA 0 [] ⟨#[97]⟩ ⟨#[98]⟩ hA (by omega) (by decide)
  rw [o2] at this
  have e2 : nnD awA 2 ⟨#[97]⟩ 0 = 1 := by unfold nnD; rw [if_pos o2]
  have e3 : noD awA 2 ⟨#[97]⟩ ⟨#[98]⟩ 0 [] = awO2 := by unfold noD; rw [if_pos o2]; rfl
  rw [e1, e2, e3] at this
  exact this
 have cM1 : (std Try.prog T).pc 62 [.root (dBox awA awN 1 awO1), .v false [vS ⟨#[97]⟩], .v false [vS ⟨#[98]⟩]] (ret1 (.st (vB true))) [dBox awB awN 2 awO3, .none, .none] := by
  refine ⟨enters Try.func62 (by kernel_rfl) (by kernel_rfl), ?_⟩
  have := pc_MoveD awA awN 1 awO1 ⟨#[97]⟩ ⟨#[98]⟩ hA (by omega) (by decide)
  rw [o2] at this
  have e2 : nnD awA 2 ⟨#[97]⟩ 1 = 2 := by unfold nnD; rw [if_pos o2]
  have e3 : noD awA 2 ⟨#[97]⟩ ⟨#[98]⟩ 0 awO1 = awO3 := by unfold noD; rw [if_pos o2]; rfl
  rw [e1, e2, e3] at this
  exact this
 have k1 : opOk 1 awO2 := ⟨rfl, fun i hi => by obtain rfl : i = 0 := (by omega); exact ⟨⟨_, rfl⟩, ⟨_, rfl⟩, ⟨_, rfl⟩, ⟨_, rfl⟩⟩⟩
 have k2 : opOk 2 awO3 := ⟨rfl, fun i hi => by
  rcases (by omega : i = 0 ∨ i = 1) with rfl | rfl <;> exact ⟨⟨_, rfl⟩, ⟨_, rfl⟩, ⟨_, rfl⟩, ⟨_, rfl⟩⟩⟩
 have cC1 : (std Try.prog T).pc 36 [.root (dBox awB awA 1 awO2), .v false [.sl 1 [vB false]]] ⟨true, []⟩ [dBox awA awA 0 [], .none] := ⟨enters Try.func36 (by kernel_rfl) (by kernel_rfl),
  pc_CrashD awB awA 1 1 0 awO2 [vB false] hA (by omega) k1 (by omega) rfl (fun i hi => by obtain rfl : i = 0 := (by omega); exact ⟨_, rfl⟩) (by omega) (fun i h => absurd h (by omega)) (.inr fun h => absurd h.2 (by decide))⟩
 have cC2 : (std Try.prog T).pc 36 [.root (dBox awB awN 2 awO3), .v false [.sl 2 [vB false, vB true]]] ⟨true, []⟩ [dBox awN awN 0 [], .none] := ⟨enters Try.func36 (by kernel_rfl) (by kernel_rfl),
  pc_CrashD awB awN 2 2 0 awO3 [vB false, vB true] MI.new (by omega) k2 (by omega) rfl (fun i hi => by rcases (by omega : i = 0 ∨ i = 1) with rfl | rfl <;> exact ⟨_, rfl⟩) (by omega) (fun i h => absurd h (by omega)) (.inr fun h => absurd h.2 (by decide))⟩
 have cG : (std Try.prog T).pc 34 [.root (dBox awA awA 0 []), .v false [vS ⟨#[97]⟩]] ⟨true, [(false, [.st (vI 7)]), (false, [.st (vB true)])]⟩ [dBox awA awA 0 [], .none] := by
  have := c_GetD awA awA 0 [] ⟨#[97]⟩ hA
  have g1 : getD awA ⟨#[97]⟩ = 7 := by decide
  have g2 : hasD awA ⟨#[97]⟩ = true := by decide
  rw [g1, g2] at this
  exact this
 have z1 : nsN awA = 1 := by decide
 have z2 : nsN awN = 0 := by decide
 have q1 : awA.ks.length ≤ 1000 := by decide
 have q2 : awN.ks.length ≤ 1000 := by decide
 have cN : (std Try.prog T).pcn 30 [] [.map .str awN, .map .str awN, .own oT 0 []] := c_NewD
 have cN1 := c_NamesD awA awA 0 [] q1
 have cN2 := c_NamesD awN awN 0 [] q2
 refine pc_of tok Try.func29 rfl (by rfl) ?_
 obtain ⟨j, hj⟩ : ∃ j : J, j = std Try.prog T := ⟨_, rfl⟩
 have hm : Try.prog.follows .mixedOrders = true := by kernel_rfl
 generalize y_nsN : @nsN = x_nsN at *
 generalize y_nsC : @nsC = x_nsC at *
 generalize y_awN : @awN = x_awN at *
 generalize y_awA : @awA = x_awA at *
 generalize y_awB : @awB = x_awB at *
 generalize y_hasD : @hasD = x_hasD at *
 generalize y_getD : @getD = x_getD at *
 generalize y_okD : @okD = x_okD at *
 generalize y_nmD : @nmD = x_nmD at *
 generalize y_nnD : @nnD = x_nnD at *
 generalize y_noD : @noD = x_noD at *
 (repeat' first | ((first | with_reducible refine tr_cut (fun h => ?_) (fun h => ?_) | refine aw_condj (by cbv) (fun h => ?_) (fun h => ?_)) <;> (try simp (disch := omega) only [hj, std, cmpI, cmpB, satB, Bool.not_eq_true, Bool.not_eq_false, decide_eq_true_eq, decide_eq_false_iff_not, beq_iff_eq, bne_iff_ne, bne_eq_false_iff_eq, beq_eq_false_iff_ne, ne_eq, reduceCtorEq, not_true_eq_false, not_false_eq_true, pl0, if_true, cmpS_eq, cmpS_neq, Bool.not_eq_eq_eq_not, Bool.not_true, Bool.not_false, Bool.not_eq_true', z1, z2, add64, sub64] at h) <;> (try (exfalso; omega))) | (with_reducible refine tr_alt (fun h => ?_) ?_ <;> (try (exfalso; omega))) | (with_reducible first | refine tr_ob ?_ ?_ | refine tr_done ?_) | (refine aw_tr hj tok (bookAw9 x_nsN x_nsC x_awN x_awA x_awB) (by cbv) ?_) | (refine aw_seq fun K hK => ?_) | (refine aw_tr1 hj tok (bookAw9 x_nsN x_nsC x_awN x_awA x_awB) (by cbv) ?_) | (refine aw_skip ?_) | (refine aw_block ?_) | (refine aw_exit ?_) | (refine aw_ret ⟨.inr rfl, ret_okj hj (by cbv) ?_ ?_⟩) | (refine aw_ret ?_) | (with_reducible first | refine th_n ?_ | refine th_r ?_ | refine th_x ?_ | refine blk_n ?_ | refine blk_r ?_ | refine blk_x ?_ | refine blk_y rfl ?_) | (refine ⟨.inr rfl, ret_okj hj (by cbv) ?_ ?_⟩) | (refine ⟨.inl rfl, ret_okj hj (by cbv) ?_ ?_⟩) | (with_reducible apply_assumption -symm -exfalso only [*]))
 all_goals ((try subst y_nsN); (try subst y_nsC); (try subst y_awN); (try subst y_awA); (try subst y_awB); (try subst y_hasD); (try subst y_getD); (try subst y_okD); (try subst y_nmD); (try subst y_nnD); (try subst y_noD))
 all_goals (try (repeat' first | with_reducible exact obl0 | with_reducible refine obl1 ?_ ?_))
 all_goals (try first | with_reducible exact True.intro | ((first | refine ob_pc hj ?_ | refine ob_pcn hj ?_); (try rw [hj]); first | exact cN | exact cP | exact cS | exact cM0 | exact cM1 | exact cC1 | exact cC2 | exact cG | exact cN1 | exact cN2) | ((first | refine ob_le hj ?_ | refine ob_lei hj ?_ | refine ob_inb hj ?_ | refine ob_pos hj ?_ | refine ob_ne0 hj ?_ | refine ob_eqb hj ?_); (first | rfl | first | omega | (simp only [hj, std]; split <;> omega) | (simp (disch := omega) only [hj, std, cmpI, cmpB, satB, add64, sub64, ite0, pl0, pl2, pl3, sb0, if_true, if_false, eq_self, z1, z2] <;> omega) | (simp (disch := omega) [hj, std, cmpI, cmpB, satB, add64, sub64, ite0, pl0, pl2, pl3, sb0, if_true, if_false, eq_self, z1, z2] <;> omega))) | (exact rfl) | ((rw [hj]; exact rfl)) | ((rw [hj, z2]; exact rfl)))
theorem c_awake09 : pc 29 [] (ret1 (.st (vB true))) := ⟨enters Try.func29 (by kernel_rfl) (by kernel_rfl), pc_awake09⟩
end Go.Proofs.Ytnmlcfjljeccnaa.A
/- The law of layer 9: DirPlays: the walk. -/
set_option linter.unusedSimpArgs false
set_option linter.unusedVariables false
set_option maxRecDepth 100000
set_option maxHeartbeats 4000000
namespace Go.Proofs.Ytnmlcfjljeccnaa.A
open Go
def bookDP (x_nsN : GM → Nat) (x_nsC : GM → List C) (x_fewA : Nat → List C → Bool) (x_awN : GM) (x_hasD : GM → ByteArray → Bool) (x_getD : GM → ByteArray → Int) (x_fiC : List C → ByteArray → Int) (q1 q2 : GM) (qn : Nat) (qo : List C) (e1 : Nat) (f1 : List C) (e2 : Nat) (f2 : List C) (e3 : Nat) (f3 : List C) : Book := fun f xs => match f, xs with
 | 28, [.v false [.sl n cs]] => some (ret1 (.st (vB (x_fewA n cs))), [])
 | 29, _ => some (ret1 (.st (vB true)), [])
 | 30, _ => some (⟨false, []⟩, [.box [.map .str x_awN, .map .str x_awN, .own oT 0 []]])
 | 31, _ => some (rets [(true, [.st (.sl e1 f1), .st (.sl e2 f2), .st (.sl e3 f3)]), (false, [.st (vB true)])], [.box [.map .str q1, .map .str q2, .own oT qn qo], .none, .none])
 | 32, [.root (.box [.map _ m, .map _ m2, .own _ n os])] => some (ret1 (.own sT (x_nsN m) (x_nsC m)), [.box [.map .str m, .map .str m2, .own oT n os]])
 | 33, [.root (.box [.map _ m, .map _ m2, .own _ n os])] => some (ret1 (.st (vI n)), [.box [.map .str m, .map .str m2, .own oT n os]])
 | 34, [.root (.box [.map _ m, .map _ m2, .own _ n os]), .v false [.val (.string x)]] => some (⟨true, [(false, [.st (vI (x_getD m x))]), (false, [.st (vB (x_hasD m x))])]⟩, [.box [.map .str m, .map .str m2, .own oT n os], .none])
 | 35, [.v false [.sl n cs], .v false [.val (.string x)]] => some (ret1 (.st (vI (x_fiC cs x))), [])
 | _, _ => none
structure ActD (ac : List C) (k : Nat) (kd : Int) (x y : ByteArray) (q : Int) (kn : Nat) (ks : List C) : Prop where
 a0 : cellAt ac (k * 5) = vI kd
 a1 : cellAt ac (k * 5 + 1) = vS x
 a2 : cellAt ac (k * 5 + 2) = vS y
 a3 : cellAt ac (k * 5 + 3) = vI q
 a4 : cellAt ac (k * 5 + 4) = .sl kn ks
 kl : ks.length = kn
 kb : kn ≤ 140737488355328
 ok : ∀ q, q < kn → okK .bool (cellAt ks q)
theorem c_NewDn : (std Try.prog T).pcn 30 [] [.map .str awN, .map .str awN, .own oT 0 []] := c_NewD
theorem c_PendD (m1 m2 : GM) (n : Nat) (os : List C) : (std Try.prog T).pc 33 [.root (dBox m1 m2 n os)] (ret1 (.st (vI n))) [dBox m1 m2 n os] := ⟨enters Try.func33 (by kernel_rfl) (by kernel_rfl), pc_PendD m1 m2 n os⟩
theorem pc_DirPlaysL (m : Nat) (ac : List C) (nm : ByteArray) (hm5 : ac.length = m * 5) (hmm : m ≤ 140737488355328) (hA : ∀ k, k < m → ∃ kd x y q kn ks, ActD ac k kd x y q kn ks) :
  PC Try.prog T 5 [.v false [.sl m ac], .v false [vS nm]] (ret1 (.st (vB true))) [] := by
 have cF : pc 28 [.v false [.sl m ac]] (ret1 (.st (vB (fewA m ac)))) := ⟨enters Try.func28 (by kernel_rfl) (by kernel_rfl), pc_fewA m ac hm5 fun k hk => by
  obtain ⟨kd, x, y, q, kn, ks, h⟩ := hA k hk
  exact ⟨by rw [h.a1]; exact ⟨_, rfl⟩, by rw [h.a2]; exact ⟨_, rfl⟩, by rw [h.a4]; exact .inr ⟨_, _, rfl⟩⟩⟩
 have eF : fewA m ac = true → m ≤ 40 ∧ ∀ k, k < m → (gs (cellAt ac (k * 5 + 1))).size ≤ 20 ∧ (gs (cellAt ac (k * 5 + 2))).size ≤ 20 ∧ gn (cellAt ac (k * 5 + 4)) ≤ 40 := fun h => of_decide_eq_true h
 refine pc_of tok Try.func5 rfl (by rfl) ?_
 obtain ⟨j, hj⟩ : ∃ j : J, j = std Try.prog T := ⟨_, rfl⟩
 have hm : Try.prog.follows .mixedOrders = true := by kernel_rfl
 generalize y_nsN : @nsN = x_nsN at *
 generalize y_nsC : @nsC = x_nsC at *
 generalize y_fewA : @fewA = x_fewA at *
 generalize y_awN : @awN = x_awN at *
 generalize y_hasD : @hasD = x_hasD at *
 generalize y_getD : @getD = x_getD at *
 generalize y_fiC : @fiC = x_fiC at *
 generalize y_nC : @nC = x_nC at *
 generalize y_nN : @nN = x_nN at *
 generalize y_sC : @sC = x_sC at *
 (repeat' first | ((first | with_reducible refine tr_cut (fun h => ?_) (fun h => ?_) | refine aw_condj (by cbv) (fun h => ?_) (fun h => ?_)) <;> (try simp (disch := omega) only [hj, std, cmpI, cmpB, satB, Bool.not_eq_true, Bool.not_eq_false, decide_eq_true_eq, decide_eq_false_iff_not, beq_iff_eq, bne_iff_ne, bne_eq_false_iff_eq, beq_eq_false_iff_ne, ne_eq, reduceCtorEq, not_true_eq_false, not_false_eq_true, pl0, if_true, cmpS_eq, cmpS_neq, Bool.not_eq_eq_eq_not, Bool.not_true, Bool.not_false, Bool.not_eq_true', add64, sub64] at h) <;> (try (exfalso; omega))) | (with_reducible refine tr_alt (fun h => ?_) ?_ <;> (try (exfalso; omega))) | (with_reducible first | refine tr_ob ?_ ?_ | refine tr_done ?_) | (refine aw_tr hj tok ((bookDP x_nsN x_nsC x_fewA x_awN x_hasD x_getD x_fiC) awN awN 0 [] 0 [] 0 [] 0 []) (by cbv) ?_) | (refine aw_seq fun K hK => ?_) | (refine aw_tr1 hj tok ((bookDP x_nsN x_nsC x_fewA x_awN x_hasD x_getD x_fiC) awN awN 0 [] 0 [] 0 [] 0 []) (by cbv) ?_) | (refine aw_skip ?_) | (refine aw_block ?_) | (refine aw_exit ?_) | (refine aw_ret ⟨.inr rfl, ret_okj hj (by cbv) ?_ ?_⟩) | (refine aw_ret ?_) | (with_reducible first | refine th_n ?_ | refine th_r ?_ | refine th_x ?_ | refine blk_n ?_ | refine blk_r ?_ | refine blk_x ?_ | refine blk_y rfl ?_) | (refine ⟨.inr rfl, ret_okj hj (by cbv) ?_ ?_⟩) | (refine ⟨.inl rfl, ret_okj hj (by cbv) ?_ ?_⟩) | (with_reducible refine ⟨_, by cbv, ?_, ?_⟩) | (with_reducible apply_assumption -symm -exfalso only [*]))
 all_goals ((try subst y_nsN); (try subst y_nsC); (try subst y_fewA); (try subst y_awN); (try subst y_hasD); (try subst y_getD); (try subst y_fiC); (try subst y_nC); (try subst y_nN); (try subst y_sC))
 all_goals (try (have hfw := eF (by assumption)))
 all_goals (try (repeat' first | with_reducible exact obl0 | (with_reducible refine obl1 ?_ ?_)))
 all_goals (try first | with_reducible exact True.intro | ((first | refine ob_pc hj ?_ | refine ob_pcn hj ?_); (try rw [hj]); first | exact cF | exact c_awake09 | exact c_NewDn) | ((first | refine ob_le hj ?_ | refine ob_lei hj ?_ | refine ob_inb hj ?_ | refine ob_pos hj ?_ | refine ob_ne0 hj ?_ | refine ob_eqb hj ?_); (first | rfl | first | omega | (simp only [hj, std]; split <;> omega) | (simp (disch := omega) only [hj, std, cmpI, cmpB, satB, add64, sub64, ite0, pl0, pl2, pl3, sb0, if_true, if_false, eq_self] <;> omega) | (simp (disch := omega) [hj, std, cmpI, cmpB, satB, add64, sub64, ite0, pl0, pl2, pl3, sb0, if_true, if_false, eq_self] <;> omega))) | (exact rfl))
 refine aw_nil 6 0 rfl rfl ?_
 refine aw_nil 6 1 rfl rfl ?_
 refine aw_nil 6 2 rfl rfl ?_
 refine aw_lpj hj [(0, .keep), (1, .keep), (5, .keep), (6, .keep), (7, .keep)] [21, 6] (fun (⟨i, m1, m2, n, os, a1, b1, a2, b2, a3, b3⟩ : Int × GM × GM × Nat × (List C) × Nat × (List C) × Nat × (List C) × Nat × (List C)) => stOf 137 [(0, .one (.c (.sl m ac))), (1, .one (.c (vS nm))), (5, .one (.ptr 21 0)), (6, .one (.ptr 6 0)), (7, .one (.c (vI i)))] [(21, .box [.map .str m1, .map .str m2, .own oT n os]), (6, .box [.st (.sl a1 b1), .st (.sl a2 b2), .st (.sl a3 b3)])]) (fun (⟨i, m1, m2, n, os, a1, b1, a2, b2, a3, b3⟩ : Int × GM × GM × Nat × (List C) × Nat × (List C) × Nat × (List C) × Nat × (List C)) => m - i.toNat) (fun (⟨i, m1, m2, n, os, a1, b1, a2, b2, a3, b3⟩ : Int × GM × GM × Nat × (List C) × Nat × (List C) × Nat × (List C) × Nat × (List C)) => 0 ≤ i ∧ i ≤ m ∧ ∃ p d, InvD i.toNat p d ∧ m1 = p.m1 ∧ m2 = p.m2 ∧ n = p.n ∧ os = p.os ∧ a1 = nN d.l1 ∧ b1 = nC d.l1 ∧ a2 = nN d.l2 ∧ b2 = nC d.l2 ∧ a3 = d.n ∧ b3 = d.ro) ((0, awN, awN, 0, [], 0, [], 0, [], 0, [])) (by generalize @nsN = x_nsN; generalize @nsC = x_nsC; generalize @fewA = x_fewA; generalize @awN = x_awN; generalize @hasD = x_hasD; generalize @getD = x_getD; generalize @fiC = x_fiC; generalize @nC = x_nC; generalize @nN = x_nN; generalize @sC = x_sC; cbv) ?_ (fun ⟨i, m1, m2, n, os, a1, b1, a2, b2, a3, b3⟩ hI => ?_)
 ·exact ⟨by omega, by omega, _, _, InvD.new, rfl, rfl, rfl, rfl, rfl, rfl, rfl, rfl, rfl, rfl⟩
 obtain ⟨i1, i2, p, d, I, h1, h2, h3, h4, h5, h6, h7, h8, h9, h10⟩ := hI
 obtain ⟨hm40, hfk⟩ := hfw
 rcases Decidable.em (i < (m : Int)) with hi | hi
 ·obtain ⟨kd, x, y, q, kn, ks, h⟩ := hA i.toNat (by omega)
  obtain ⟨s1, s2, s3⟩ := hfk i.toNat (by omega)
  have e0 : gi (cellAt ac (i.toNat * 5)) = kd := by rw [h.a0]; rfl
  have e1 : gs (cellAt ac (i.toNat * 5 + 1)) = x := by rw [h.a1]; rfl
  have e2 : gs (cellAt ac (i.toNat * 5 + 2)) = y := by rw [h.a2]; rfl
  have e3 : gi (cellAt ac (i.toNat * 5 + 3)) = q := by rw [h.a3]; rfl
  have e4 : gn (cellAt ac (i.toNat * 5 + 4)) = kn := by rw [h.a4]; rfl
  have e5 : gc (cellAt ac (i.toNat * 5 + 4)) = ks := by rw [h.a4]; rfl
  have o0 : okK (.int .i64) (cellAt ac (i.toNat * 5)) := by rw [h.a0]; exact ⟨_, rfl⟩
  have o1 : okK .str (cellAt ac (i.toNat * 5 + 1)) := by rw [h.a1]; exact ⟨_, rfl⟩
  have o2 : okK .str (cellAt ac (i.toNat * 5 + 2)) := by rw [h.a2]; exact ⟨_, rfl⟩
  have o3 : okK (.int .i64) (cellAt ac (i.toNat * 5 + 3)) := by rw [h.a3]; exact ⟨_, rfl⟩
  have o4 : okK .sl (cellAt ac (i.toNat * 5 + 4)) := by rw [h.a4]; exact .inr ⟨_, _, rfl⟩
  rw [e1] at s1
  rw [e2] at s2
  have f1 : (i + 1).toNat = i.toNat + 1 := by omega
  obtain ⟨p', I', cD⟩ := do_step I (by omega) kd x y q kn ks s1 s2 h.kl h.kb h.ok
  generalize stepR d kd x y q kn ks = d' at I' cD
  have cD2 : (std Try.prog T).pc 31 [.root (.box [.map .str m1, .map .str m2, .own oT n os]), .v true [.sl a1 b1, .sl a2 b2, .sl a3 b3], .v true [vI kd, vS x, vS y, vI q, .sl kn ks]] (rRet d') [pBox p', .none, .none] := by
   rw [h1, h2, h3, h4, h5, h6, h7, h8, h9, h10]; exact cD
  clear cD h1 h2 h3 h4 h5 h6 h7 h8 h9 h10 I p d
  obtain ⟨p1, p2, pn, po⟩ := p'
  obtain ⟨hg1, hg1'⟩ : ∃ u, u = nN d'.l1 := ⟨_, rfl⟩
  obtain ⟨hg2, hg2'⟩ : ∃ u, u = nC d'.l1 := ⟨_, rfl⟩
  obtain ⟨hg3, hg3'⟩ : ∃ u, u = nN d'.l2 := ⟨_, rfl⟩
  obtain ⟨hg4, hg4'⟩ : ∃ u, u = nC d'.l2 := ⟨_, rfl⟩
  obtain ⟨hg5, hg5'⟩ : ∃ u, u = d'.n := ⟨_, rfl⟩
  obtain ⟨hg6, hg6'⟩ : ∃ u, u = d'.ro := ⟨_, rfl⟩
  dsimp only [rRet, doRet, pBox] at cD2
  rw [← hg1', ← hg2', ← hg3', ← hg4', ← hg5', ← hg6'] at cD2
  clear hfk hA eF cF
  generalize y_nsN : @nsN = x_nsN at *
  generalize y_nsC : @nsC = x_nsC at *
  generalize y_fewA : @fewA = x_fewA at *
  generalize y_awN : @awN = x_awN at *
  generalize y_hasD : @hasD = x_hasD at *
  generalize y_getD : @getD = x_getD at *
  generalize y_fiC : @fiC = x_fiC at *
  generalize y_nC : @nC = x_nC at *
  generalize y_nN : @nN = x_nN at *
  generalize y_sC : @sC = x_sC at *
  (repeat' first | (with_reducible first | refine aw_stop (id := 9) ?_ | refine aw_stop1 (id := 9) ?_ | refine aw_stop2 (id := 9) ?_) | ((first | with_reducible refine tr_cut (fun h => ?_) (fun h => ?_) | refine aw_condj (by cbv) (fun h => ?_) (fun h => ?_)) <;> (try simp (disch := omega) only [hj, std, cmpI, cmpB, satB, Bool.not_eq_true, Bool.not_eq_false, decide_eq_true_eq, decide_eq_false_iff_not, beq_iff_eq, bne_iff_ne, bne_eq_false_iff_eq, beq_eq_false_iff_ne, ne_eq, reduceCtorEq, not_true_eq_false, not_false_eq_true, pl0, if_true, cmpS_eq, cmpS_neq, Bool.not_eq_eq_eq_not, Bool.not_true, Bool.not_false, Bool.not_eq_true', add64, sub64] at h) <;> (try (exfalso; omega))) | (with_reducible refine tr_alt (fun h => ?_) ?_ <;> (try (exfalso; omega))) | (with_reducible first | refine tr_ob ?_ ?_ | refine tr_done ?_) | (refine aw_tr hj tok ((bookDP x_nsN x_nsC x_fewA x_awN x_hasD x_getD x_fiC) p1 p2 pn po hg1 hg2 hg3 hg4 hg5 hg6) (by cbv) ?_) | (refine aw_seq fun K hK => ?_) | (refine aw_tr1 hj tok ((bookDP x_nsN x_nsC x_fewA x_awN x_hasD x_getD x_fiC) p1 p2 pn po hg1 hg2 hg3 hg4 hg5 hg6) (by cbv) ?_) | (refine aw_skip ?_) | (refine aw_block ?_) | (refine aw_exit ?_) | (refine aw_ret ⟨.inr rfl, ret_okj hj (by cbv) ?_ ?_⟩) | (refine aw_ret ?_) | (with_reducible first | refine th_n ?_ | refine th_r ?_ | refine th_x ?_ | refine blk_n ?_ | refine blk_r ?_ | refine blk_x ?_ | refine blk_y rfl ?_) | (refine ⟨.inr rfl, ret_okj hj (by cbv) ?_ ?_⟩) | (refine ⟨.inl rfl, ret_okj hj (by cbv) ?_ ?_⟩) | (with_reducible refine ⟨_, by cbv, ?_, ?_⟩) | (with_reducible apply_assumption -symm -exfalso only [*]))
  all_goals ((try subst y_nsN); (try subst y_nsC); (try subst y_fewA); (try subst y_awN); (try subst y_hasD); (try subst y_getD); (try subst y_fiC); (try subst y_nC); (try subst y_nN); (try subst y_sC))
  all_goals (try (repeat' first | with_reducible exact obl0 | (with_reducible refine obl1 ?_ ?_)))
  all_goals (try first | with_reducible exact True.intro | ((first | refine ob_le hj ?_ | refine ob_lei hj ?_ | refine ob_inb hj ?_ | refine ob_pos hj ?_ | refine ob_ne0 hj ?_ | refine ob_eqb hj ?_); (first | rfl | first | omega | (simp only [hj, std]; split <;> omega) | (simp (disch := omega) only [hj, std, cmpI, cmpB, satB, add64, sub64, ite0, pl0, pl2, pl3, sb0, if_true, if_false, eq_self] <;> omega) | (simp (disch := omega) [hj, std, cmpI, cmpB, satB, add64, sub64, ite0, pl0, pl2, pl3, sb0, if_true, if_false, eq_self] <;> omega))))
  refine stop_go ?_; refine aw_joinj hj [(0, .keep), (1, .keep), (5, .keep), (6, .keep), (7, .keep), (8, .keep), (9, .keep)] [21, 6, 8] (fun (z : Nat) => stOf 137 [(0, .one (.c (.sl m ac))), (1, .one (.c (vS nm))), (5, .one (.ptr 21 0)), (6, .one (.ptr 6 0)), (7, .one (.c (vI i))), (8, .one (.ptr 8 0)), (9, .one (.c (vB true)))] [(21, .box [.map .str p1, .map .str p2, .own oT pn po]), (6, .box [.st (.sl a1 b1), .st (.sl a2 b2), .st (.sl a3 b3)]), (8, .box [.st (.sl hg1 hg2), .st (.sl hg3 hg4), .st (.sl z hg6)])]) (fun (z : Nat) => hg5 = z) ?_ (fun z hI => ?_)
  ·generalize y_nsN : @nsN = x_nsN at *
   generalize y_nsC : @nsC = x_nsC at *
   generalize y_fewA : @fewA = x_fewA at *
   generalize y_awN : @awN = x_awN at *
   generalize y_hasD : @hasD = x_hasD at *
   generalize y_getD : @getD = x_getD at *
   generalize y_fiC : @fiC = x_fiC at *
   generalize y_nC : @nC = x_nC at *
   generalize y_nN : @nN = x_nN at *
   generalize y_sC : @sC = x_sC at *
   (repeat' first | ((first | with_reducible refine tr_cut (fun h => ?_) (fun h => ?_) | refine aw_condj (by cbv) (fun h => ?_) (fun h => ?_)) <;> (try simp (disch := omega) only [hj, std, cmpI, cmpB, satB, Bool.not_eq_true, Bool.not_eq_false, decide_eq_true_eq, decide_eq_false_iff_not, beq_iff_eq, bne_iff_ne, bne_eq_false_iff_eq, beq_eq_false_iff_ne, ne_eq, reduceCtorEq, not_true_eq_false, not_false_eq_true, pl0, if_true, cmpS_eq, cmpS_neq, Bool.not_eq_eq_eq_not, Bool.not_true, Bool.not_false, Bool.not_eq_true', add64, sub64] at h) <;> (try (exfalso; omega))) | (with_reducible refine tr_alt (fun h => ?_) ?_ <;> (try (exfalso; omega))) | (with_reducible first | refine tr_ob ?_ ?_ | refine tr_done ?_) | (refine aw_dc1 (id := 8) hj tok hm ((bookDP x_nsN x_nsC x_fewA x_awN x_hasD x_getD x_fiC) p1 p2 pn po hg1 hg2 hg3 hg4 hg5 hg6) [0, 2, 3, 4, 5] (.alt 1 (.alt 6 (.take 7 (.take 8 (.take 9 (.last 10 (.last 11 (.take 12 .done)))))) (.last 10 (.last 6 (.take 7 (.take 8 (.take 9 (.last 11 (.take 12 .done)))))))) (.last 10 (.last 1 (.last 6 (.take 7 (.take 8 (.take 9 (.last 11 (.take 12 .done))))))))) (by kernel_rfl) (by cbv) ?_) | (refine aw_dc (id := 8) hj tok hm ((bookDP x_nsN x_nsC x_fewA x_awN x_hasD x_getD x_fiC) p1 p2 pn po hg1 hg2 hg3 hg4 hg5 hg6) [0, 2, 3, 4, 5] (.alt 1 (.alt 6 (.take 7 (.take 8 (.take 9 (.last 10 (.last 11 (.take 12 .done)))))) (.last 10 (.last 6 (.take 7 (.take 8 (.take 9 (.last 11 (.take 12 .done)))))))) (.last 10 (.last 1 (.last 6 (.take 7 (.take 8 (.take 9 (.last 11 (.take 12 .done))))))))) (by kernel_rfl) (by cbv) ?_) | (refine aw_tr hj tok ((bookDP x_nsN x_nsC x_fewA x_awN x_hasD x_getD x_fiC) p1 p2 pn po hg1 hg2 hg3 hg4 hg5 hg6) (by cbv) ?_) | (refine aw_seq fun K hK => ?_) | (refine aw_tr1 hj tok ((bookDP x_nsN x_nsC x_fewA x_awN x_hasD x_getD x_fiC) p1 p2 pn po hg1 hg2 hg3 hg4 hg5 hg6) (by cbv) ?_) | (refine aw_skip ?_) | (refine aw_block ?_) | (refine aw_exit ?_) | (refine aw_ret ⟨.inr rfl, ret_okj hj (by cbv) ?_ ?_⟩) | (refine aw_ret ?_) | (with_reducible first | refine th_n ?_ | refine th_r ?_ | refine th_x ?_ | refine blk_n ?_ | refine blk_r ?_ | refine blk_x ?_ | refine blk_y rfl ?_) | (refine ⟨.inr rfl, ret_okj hj (by cbv) ?_ ?_⟩) | (refine ⟨.inl rfl, ret_okj hj (by cbv) ?_ ?_⟩) | (with_reducible refine ⟨_, by cbv, ?_, ?_⟩) | (with_reducible apply_assumption -symm -exfalso only [*]))
   all_goals ((try subst y_nsN); (try subst y_nsC); (try subst y_fewA); (try subst y_awN); (try subst y_hasD); (try subst y_getD); (try subst y_fiC); (try subst y_nC); (try subst y_nN); (try subst y_sC))
   all_goals (try (repeat' first | with_reducible exact obl0 | (with_reducible refine obl1 ?_ ?_)))
   all_goals (try first | with_reducible exact True.intro | ((first | refine ob_le hj ?_ | refine ob_lei hj ?_ | refine ob_inb hj ?_ | refine ob_pos hj ?_ | refine ob_ne0 hj ?_ | refine ob_eqb hj ?_); (first | rfl | first | omega | (simp only [hj, std]; split <;> omega) | (simp (disch := omega) only [hj, std, cmpI, cmpB, satB, add64, sub64, ite0, pl0, pl2, pl3, sb0, if_true, if_false, eq_self, hm5] <;> omega) | (simp (disch := omega) [hj, std, cmpI, cmpB, satB, add64, sub64, ite0, pl0, pl2, pl3, sb0, if_true, if_false, eq_self, hm5] <;> omega))) | ((refine ob_pc hj ?_; simp only [hj, std, ite0, e0, e1, e2, e3, e4, e5]; exact cD2)) | ((refine ob_ok hj ?_; simp only [hj, std, ite0]; first | exact o0 | exact o1 | exact o2 | exact o3 | exact o4)) | (exact rfl))
  ·subst hI
   obtain ⟨nn1, nn2⟩ := I'.r1.names
   have hlen := I'.r1.len
   have bb1 := I'.b1
   have hnn := nN_eq d'.l1
   dsimp only at nn1 nn2 hlen
   have hL : nsN p1 = hg1 := by rw [nn1, hg1', hnn]
   have hP : pn = hg5 := by rw [hg5']; exact I'.hn.symm
   have cN := c_NamesD p1 p2 pn po (by omega)
   clear cD2 e0 e1 e2 e3 e4 e5 o0 o1 o2 o3 o4
   generalize y_nsN : @nsN = x_nsN at *
   generalize y_nsC : @nsC = x_nsC at *
   generalize y_fewA : @fewA = x_fewA at *
   generalize y_awN : @awN = x_awN at *
   generalize y_hasD : @hasD = x_hasD at *
   generalize y_getD : @getD = x_getD at *
   generalize y_fiC : @fiC = x_fiC at *
   generalize y_nC : @nC = x_nC at *
   generalize y_nN : @nN = x_nN at *
   generalize y_sC : @sC = x_sC at *
   (repeat' first | (with_reducible first | refine aw_stop (id := 13) ?_ | refine aw_stop1 (id := 13) ?_ | refine aw_stop2 (id := 13) ?_) | ((first | with_reducible refine tr_cut (fun h => ?_) (fun h => ?_) | refine aw_condj (by cbv) (fun h => ?_) (fun h => ?_)) <;> (try simp (disch := omega) only [hj, std, cmpI, cmpB, satB, Bool.not_eq_true, Bool.not_eq_false, decide_eq_true_eq, decide_eq_false_iff_not, beq_iff_eq, bne_iff_ne, bne_eq_false_iff_eq, beq_eq_false_iff_ne, ne_eq, reduceCtorEq, not_true_eq_false, not_false_eq_true, pl0, if_true, cmpS_eq, cmpS_neq, Bool.not_eq_eq_eq_not, Bool.not_true, Bool.not_false, Bool.not_eq_true', add64, sub64] at h) <;> (try (exfalso; omega))) | (with_reducible refine tr_alt (fun h => ?_) ?_ <;> (try (exfalso; omega))) | (with_reducible first | refine tr_ob ?_ ?_ | refine tr_done ?_) | (refine aw_tr hj tok ((bookDP x_nsN x_nsC x_fewA x_awN x_hasD x_getD x_fiC) p1 p2 pn po hg1 hg2 hg3 hg4 hg5 hg6) (by cbv) ?_) | (refine aw_seq fun K hK => ?_) | (refine aw_tr1 hj tok ((bookDP x_nsN x_nsC x_fewA x_awN x_hasD x_getD x_fiC) p1 p2 pn po hg1 hg2 hg3 hg4 hg5 hg6) (by cbv) ?_) | (refine aw_skip ?_) | (refine aw_block ?_) | (refine aw_exit ?_) | (refine aw_ret ⟨.inr rfl, ret_okj hj (by cbv) ?_ ?_⟩) | (refine aw_ret ?_) | (with_reducible first | refine th_n ?_ | refine th_r ?_ | refine th_x ?_ | refine blk_n ?_ | refine blk_r ?_ | refine blk_x ?_ | refine blk_y rfl ?_) | (refine ⟨.inr rfl, ret_okj hj (by cbv) ?_ ?_⟩) | (refine ⟨.inl rfl, ret_okj hj (by cbv) ?_ ?_⟩) | (with_reducible refine ⟨_, by cbv, ?_, ?_⟩) | (with_reducible apply_assumption -symm -exfalso only [*]))
   all_goals ((try subst y_nsN); (try subst y_nsC); (try subst y_fewA); (try subst y_awN); (try subst y_hasD); (try subst y_getD); (try subst y_fiC); (try subst y_nC); (try subst y_nN); (try subst y_sC))
   all_goals (try (repeat' first | with_reducible exact obl0 | (with_reducible refine obl1 ?_ ?_)))
   all_goals (try first | with_reducible exact True.intro | ((first | refine ob_pc hj ?_ | refine ob_pcn hj ?_); (try rw [hj]); first | exact cN | exact c_PendD _ _ _ _) | ((first | refine ob_le hj ?_ | refine ob_lei hj ?_ | refine ob_inb hj ?_ | refine ob_pos hj ?_ | refine ob_ne0 hj ?_ | refine ob_eqb hj ?_); (first | rfl | first | omega | (simp only [hj, std]; split <;> omega) | (simp (disch := omega) only [hj, std, cmpI, cmpB, satB, add64, sub64, ite0, pl0, pl2, pl3, sb0, if_true, if_false, eq_self, hL, hP] <;> omega) | (simp (disch := omega) [hj, std, cmpI, cmpB, satB, add64, sub64, ite0, pl0, pl2, pl3, sb0, if_true, if_false, eq_self, hL, hP] <;> omega))))
   refine stop_go ?_; refine aw_joinj hj [(0, .keep), (1, .keep), (5, .keep), (6, .keep), (7, .keep), (10, .own sT)] [21, 6] (fun (z : Nat) => stOf 137 [(0, .one (.c (.sl m ac))), (1, .one (.c (vS nm))), (5, .one (.ptr 21 0)), (6, .one (.ptr 6 0)), (7, .one (.c (vI i))), (10, .one (.view 10 0))] [(10, .loose [.own sT (nsN p1) (nsC p1)]), (21, .box [.map .str p1, .map .str p2, .own oT pn po]), (6, .box [.st (.sl hg1 hg2), .st (.sl hg3 hg4), .st (.sl z hg6)])]) (fun (z : Nat) => hg5 = z) ?_ (fun z hI => ?_)
   ·generalize y_nsN : @nsN = x_nsN at *
    generalize y_nsC : @nsC = x_nsC at *
    generalize y_fewA : @fewA = x_fewA at *
    generalize y_awN : @awN = x_awN at *
    generalize y_hasD : @hasD = x_hasD at *
    generalize y_getD : @getD = x_getD at *
    generalize y_fiC : @fiC = x_fiC at *
    generalize y_nC : @nC = x_nC at *
    generalize y_nN : @nN = x_nN at *
    generalize y_sC : @sC = x_sC at *
    (repeat' first | ((first | with_reducible refine tr_cut (fun h => ?_) (fun h => ?_) | refine aw_condj (by cbv) (fun h => ?_) (fun h => ?_)) <;> (try simp (disch := omega) only [hj, std, cmpI, cmpB, satB, Bool.not_eq_true, Bool.not_eq_false, decide_eq_true_eq, decide_eq_false_iff_not, beq_iff_eq, bne_iff_ne, bne_eq_false_iff_eq, beq_eq_false_iff_ne, ne_eq, reduceCtorEq, not_true_eq_false, not_false_eq_true, pl0, if_true, cmpS_eq, cmpS_neq, Bool.not_eq_eq_eq_not, Bool.not_true, Bool.not_false, Bool.not_eq_true', hL, hP, Int.ofNat_eq_natCast, add64, sub64] at h) <;> (try (exfalso; omega))) | (with_reducible refine tr_alt (fun h => ?_) ?_ <;> (try (exfalso; omega))) | (with_reducible first | refine tr_ob ?_ ?_ | refine tr_done ?_) | (refine aw_dc1 (id := 11) hj tok hm ((bookDP x_nsN x_nsC x_fewA x_awN x_hasD x_getD x_fiC) p1 p2 pn po hg1 hg2 hg3 hg4 hg5 hg6) [0, 1, 2] (.take 3 (.take 4 (.take 5 (.last 6 (.take 7 (.take 8 (.take 9 (.take 10 (.take 11 (.take 13 (.alt 12 (.last 14 (.take 15 (.take 16 (.take 17 .done)))) (.last 14 (.take 15 (.last 12 (.take 16 (.take 17 .done)))))))))))))))) (by kernel_rfl) (by cbv) ?_) | (refine aw_dc (id := 11) hj tok hm ((bookDP x_nsN x_nsC x_fewA x_awN x_hasD x_getD x_fiC) p1 p2 pn po hg1 hg2 hg3 hg4 hg5 hg6) [0, 1, 2] (.take 3 (.take 4 (.take 5 (.last 6 (.take 7 (.take 8 (.take 9 (.take 10 (.take 11 (.take 13 (.alt 12 (.last 14 (.take 15 (.take 16 (.take 17 .done)))) (.last 14 (.take 15 (.last 12 (.take 16 (.take 17 .done)))))))))))))))) (by kernel_rfl) (by cbv) ?_) | (refine aw_tr hj tok ((bookDP x_nsN x_nsC x_fewA x_awN x_hasD x_getD x_fiC) p1 p2 pn po hg1 hg2 hg3 hg4 hg5 hg6) (by cbv) ?_) | (refine aw_seq fun K hK => ?_) | (refine aw_tr1 hj tok ((bookDP x_nsN x_nsC x_fewA x_awN x_hasD x_getD x_fiC) p1 p2 pn po hg1 hg2 hg3 hg4 hg5 hg6) (by cbv) ?_) | (refine aw_skip ?_) | (refine aw_block ?_) | (refine aw_exit ?_) | (refine aw_ret ⟨.inr rfl, ret_okj hj (by cbv) ?_ ?_⟩) | (refine aw_ret ?_) | (with_reducible first | refine th_n ?_ | refine th_r ?_ | refine th_x ?_ | refine blk_n ?_ | refine blk_r ?_ | refine blk_x ?_ | refine blk_y rfl ?_) | (refine ⟨.inr rfl, ret_okj hj (by cbv) ?_ ?_⟩) | (refine ⟨.inl rfl, ret_okj hj (by cbv) ?_ ?_⟩) | (with_reducible refine ⟨_, by cbv, ?_, ?_⟩) | (with_reducible apply_assumption -symm -exfalso only [*]))
    all_goals ((try subst y_nsN); (try subst y_nsC); (try subst y_fewA); (try subst y_awN); (try subst y_hasD); (try subst y_getD); (try subst y_fiC); (try subst y_nC); (try subst y_nN); (try subst y_sC))
    all_goals (try (repeat' first | with_reducible exact obl0 | (with_reducible refine obl1 ?_ ?_)))
    all_goals (try first | with_reducible exact True.intro | ((first | refine ob_pc hj ?_ | refine ob_pcn hj ?_); (try rw [hj]); first | exact c_PendD _ _ _ _) | ((first | refine ob_le hj ?_ | refine ob_lei hj ?_ | refine ob_inb hj ?_ | refine ob_pos hj ?_ | refine ob_ne0 hj ?_ | refine ob_eqb hj ?_); (first | rfl | first | omega | (simp only [hj, std]; split <;> omega) | (simp (disch := omega) only [hj, std, cmpI, cmpB, satB, add64, sub64, ite0, pl0, pl2, pl3, sb0, if_true, if_false, eq_self, hL, hP] <;> omega) | (simp (disch := omega) [hj, std, cmpI, cmpB, satB, add64, sub64, ite0, pl0, pl2, pl3, sb0, if_true, if_false, eq_self, hL, hP] <;> omega))) | (exact rfl))
   subst hI
   generalize y_nsN : @nsN = x_nsN at *
   generalize y_nsC : @nsC = x_nsC at *
   generalize y_fewA : @fewA = x_fewA at *
   generalize y_awN : @awN = x_awN at *
   generalize y_hasD : @hasD = x_hasD at *
   generalize y_getD : @getD = x_getD at *
   generalize y_fiC : @fiC = x_fiC at *
   generalize y_nC : @nC = x_nC at *
   generalize y_nN : @nN = x_nN at *
   generalize y_sC : @sC = x_sC at *
   (repeat' first | ((first | with_reducible refine tr_cut (fun h => ?_) (fun h => ?_) | refine aw_condj (by cbv) (fun h => ?_) (fun h => ?_)) <;> (try simp (disch := omega) only [hj, std, cmpI, cmpB, satB, Bool.not_eq_true, Bool.not_eq_false, decide_eq_true_eq, decide_eq_false_iff_not, beq_iff_eq, bne_iff_ne, bne_eq_false_iff_eq, beq_eq_false_iff_ne, ne_eq, reduceCtorEq, not_true_eq_false, not_false_eq_true, pl0, if_true, cmpS_eq, cmpS_neq, Bool.not_eq_eq_eq_not, Bool.not_true, Bool.not_false, Bool.not_eq_true', add64, sub64] at h) <;> (try (exfalso; omega))) | (with_reducible refine tr_alt (fun h => ?_) ?_ <;> (try (exfalso; omega))) | (with_reducible first | refine tr_ob ?_ ?_ | refine tr_done ?_) | (refine aw_tr hj tok ((bookDP x_nsN x_nsC x_fewA x_awN x_hasD x_getD x_fiC) p1 p2 pn po hg1 hg2 hg3 hg4 hg5 hg6) (by cbv) ?_) | (refine aw_seq fun K hK => ?_) | (refine aw_tr1 hj tok ((bookDP x_nsN x_nsC x_fewA x_awN x_hasD x_getD x_fiC) p1 p2 pn po hg1 hg2 hg3 hg4 hg5 hg6) (by cbv) ?_) | (refine aw_skip ?_) | (refine aw_block ?_) | (refine aw_exit ?_) | (refine aw_ret ⟨.inr rfl, ret_okj hj (by cbv) ?_ ?_⟩) | (refine aw_ret ?_) | (with_reducible first | refine th_n ?_ | refine th_r ?_ | refine th_x ?_ | refine blk_n ?_ | refine blk_r ?_ | refine blk_x ?_ | refine blk_y rfl ?_) | (refine ⟨.inr rfl, ret_okj hj (by cbv) ?_ ?_⟩) | (refine ⟨.inl rfl, ret_okj hj (by cbv) ?_ ?_⟩) | (with_reducible refine ⟨_, by cbv, ?_, ?_⟩) | (with_reducible apply_assumption -symm -exfalso only [*]))
   all_goals ((try subst y_nsN); (try subst y_nsC); (try subst y_fewA); (try subst y_awN); (try subst y_hasD); (try subst y_getD); (try subst y_fiC); (try subst y_nC); (try subst y_nN); (try subst y_sC))
   refine aw_lpj hj [(0, .keep), (1, .keep), (5, .keep), (6, .keep), (7, .keep), (10, .own sT), (11, .keep)] [21, 6] (fun (k : Int) => stOf 137 [(0, .one (.c (.sl m ac))), (1, .one (.c (vS nm))), (5, .one (.ptr 21 0)), (6, .one (.ptr 6 0)), (7, .one (.c (vI i))), (10, .one (.view 10 0)), (11, .one (.c (vI k)))] [(10, .loose [.own sT (nsN p1) (nsC p1)]), (21, .box [.map .str p1, .map .str p2, .own oT pn po]), (6, .box [.st (.sl hg1 hg2), .st (.sl hg3 hg4), .st (.sl hg5 hg6)])]) (fun (k : Int) => hg1 - k.toNat) (fun (k : Int) => 0 ≤ k ∧ k ≤ hg1) (0) (by generalize @nsN = x_nsN; generalize @nsC = x_nsC; generalize @fewA = x_fewA; generalize @awN = x_awN; generalize @hasD = x_hasD; generalize @getD = x_getD; generalize @fiC = x_fiC; generalize @nC = x_nC; generalize @nN = x_nN; generalize @sC = x_sC; cbv) ?_ (fun k hI => ?_)
   ·exact ⟨by omega, by omega⟩
   obtain ⟨k1, k2⟩ := hI
   have hl1 : (nsC p1).length = hg1 := by rw [nn2, sC_len, nS_eq, List.length_map, hg1', hnn]
   have hl2 : hg2.length = hg1 * 2 := by rw [hg2', hg1']; exact nC_len _
   rcases Decidable.em (k < (hg1 : Int)) with hk | hk
   ·have hkl : k.toNat < d'.l1.length := by omega
    obtain ⟨c1, c2⟩ := nC_at d'.l1 k.toNat hkl
    rw [← hg2'] at c1 c2
    have c0 : cellAt (nsC p1) k.toNat = vS (nAt d'.l1 k.toNat).1 := by
     rw [nn2, nAt_get hkl]
     unfold cellAt sC kys
     rw [List.getD_eq_getElem?_getD]
     simp [hkl]
    have hmem : ((nAt d'.l1 k.toNat).1, (nAt d'.l1 k.toNat).2) ∈ d'.l1 := by rw [nAt_get hkl]; exact List.getElem_mem hkl
    have g1 : getD p1 (nAt d'.l1 k.toNat).1 = (nAt d'.l1 k.toNat).2 := I'.r1.get hmem
    have g2 : hasD p1 (nAt d'.l1 k.toNat).1 = true := (I'.r1.has _).2 ((find_has _ _).2 (List.mem_map.2 ⟨_, hmem, rfl⟩))
    have cG := c_GetD p1 p2 pn po (nAt d'.l1 k.toNat).1 I'.r1.mi
    have u0 : gs (cellAt (nsC p1) k.toNat) = (nAt d'.l1 k.toNat).1 := by rw [c0]; rfl
    have u1 : gs (cellAt hg2 (k.toNat * 2)) = (nAt d'.l1 k.toNat).1 := by rw [c1]; rfl
    have u2 : gi (cellAt hg2 (k.toNat * 2 + 1)) = (nAt d'.l1 k.toNat).2 := by rw [c2]; rfl
    generalize nAt d'.l1 k.toNat = X at *
    obtain ⟨X, V⟩ := X
    dsimp only at c0 c1 c2 g1 g2 cG u0 u1 u2
    generalize y_nsN : @nsN = x_nsN at *
    generalize y_nsC : @nsC = x_nsC at *
    generalize y_fewA : @fewA = x_fewA at *
    generalize y_awN : @awN = x_awN at *
    generalize y_hasD : @hasD = x_hasD at *
    generalize y_getD : @getD = x_getD at *
    generalize y_fiC : @fiC = x_fiC at *
    generalize y_nC : @nC = x_nC at *
    generalize y_nN : @nN = x_nN at *
    generalize y_sC : @sC = x_sC at *
    (repeat' first | ((first | with_reducible refine tr_cut (fun h => ?_) (fun h => ?_) | refine aw_condj (by cbv) (fun h => ?_) (fun h => ?_)) <;> (try simp (disch := omega) only [hj, std, cmpI, cmpB, satB, Bool.not_eq_true, Bool.not_eq_false, decide_eq_true_eq, decide_eq_false_iff_not, beq_iff_eq, bne_iff_ne, bne_eq_false_iff_eq, beq_eq_false_iff_ne, ne_eq, reduceCtorEq, not_true_eq_false, not_false_eq_true, pl0, if_true, cmpS_eq, cmpS_neq, Bool.not_eq_eq_eq_not, Bool.not_true, Bool.not_false, Bool.not_eq_true', hL, u0, u1, u2, g1, g2, ite0, add64, sub64] at h) <;> (try (exfalso; omega))) | (with_reducible refine tr_alt (fun h => ?_) ?_ <;> (try (exfalso; omega))) | (with_reducible first | refine tr_ob ?_ ?_ | refine tr_done ?_) | (refine aw_dr1 (id := 17) hj tok hm ((bookDP x_nsN x_nsC x_fewA x_awN x_hasD x_getD x_fiC) p1 p2 pn po hg1 hg2 hg3 hg4 hg5 hg6) true [(0, false), (1, false), (2, false), (3, false), (4, false), (5, false), (6, true), (7, true), (8, true), (9, true), (10, true), (11, true), (12, true), (13, true), (14, true), (15, true), (16, false), (17, false), (18, false), (19, true), (20, true), (21, true), (22, true), (23, true), (24, true)] (by kernel_rfl) (by cbv) ?_) | (refine aw_dr (id := 17) hj tok hm ((bookDP x_nsN x_nsC x_fewA x_awN x_hasD x_getD x_fiC) p1 p2 pn po hg1 hg2 hg3 hg4 hg5 hg6) true [(0, false), (1, false), (2, false), (3, false), (4, false), (5, false), (6, true), (7, true), (8, true), (9, true), (10, true), (11, true), (12, true), (13, true), (14, true), (15, true), (16, false), (17, false), (18, false), (19, true), (20, true), (21, true), (22, true), (23, true), (24, true)] (by kernel_rfl) (by cbv) ?_) | (refine aw_tr hj tok ((bookDP x_nsN x_nsC x_fewA x_awN x_hasD x_getD x_fiC) p1 p2 pn po hg1 hg2 hg3 hg4 hg5 hg6) (by cbv) ?_) | (refine aw_seq fun K hK => ?_) | (refine aw_tr1 hj tok ((bookDP x_nsN x_nsC x_fewA x_awN x_hasD x_getD x_fiC) p1 p2 pn po hg1 hg2 hg3 hg4 hg5 hg6) (by cbv) ?_) | (refine aw_skip ?_) | (refine aw_block ?_) | (refine aw_exit ?_) | (refine aw_ret ⟨.inr rfl, ret_okj hj (by cbv) ?_ ?_⟩) | (refine aw_ret ?_) | (with_reducible first | refine th_n ?_ | refine th_r ?_ | refine th_x ?_ | refine blk_n ?_ | refine blk_r ?_ | refine blk_x ?_ | refine blk_y rfl ?_) | (refine ⟨.inr rfl, ret_okj hj (by cbv) ?_ ?_⟩) | (refine ⟨.inl rfl, ret_okj hj (by cbv) ?_ ?_⟩) | (with_reducible refine ⟨_, by cbv, ?_, ?_⟩) | (with_reducible apply_assumption -symm -exfalso only [*]))
    all_goals ((try subst y_nsN); (try subst y_nsC); (try subst y_fewA); (try subst y_awN); (try subst y_hasD); (try subst y_getD); (try subst y_fiC); (try subst y_nC); (try subst y_nN); (try subst y_sC))
    all_goals (try (repeat' first | with_reducible exact obl0 | (with_reducible refine obl1 ?_ ?_)))
    all_goals (try first | with_reducible exact True.intro | ((first | refine ob_pc hj ?_ | refine ob_pcn hj ?_); (try rw [hj]); first | exact cG | (simp only [std, u0]; exact cG)) | ((first | refine ob_le hj ?_ | refine ob_lei hj ?_ | refine ob_inb hj ?_ | refine ob_pos hj ?_ | refine ob_ne0 hj ?_ | refine ob_eqb hj ?_); (first | rfl | first | omega | (simp only [hj, std]; split <;> omega) | (simp (disch := omega) only [hj, std, cmpI, cmpB, satB, add64, sub64, ite0, pl0, pl2, pl3, sb0, if_true, if_false, eq_self, hl1, hl2, hL, u0, u1, u2, g1, g2] <;> omega) | (simp (disch := omega) [hj, std, cmpI, cmpB, satB, add64, sub64, ite0, pl0, pl2, pl3, sb0, if_true, if_false, eq_self, hl1, hl2, hL, u0, u1, u2, g1, g2] <;> omega))) | ((refine ob_ok hj ?_; simp only [hj, std, ite0]; first | exact ⟨_, c0⟩ | exact ⟨_, c1⟩ | exact ⟨_, c2⟩)) | ((simp (disch := omega) only [hj, std, add64]; first | omega | exact ⟨by omega, by omega⟩)))
   ·generalize y_nsN : @nsN = x_nsN at *
    generalize y_nsC : @nsC = x_nsC at *
    generalize y_fewA : @fewA = x_fewA at *
    generalize y_awN : @awN = x_awN at *
    generalize y_hasD : @hasD = x_hasD at *
    generalize y_getD : @getD = x_getD at *
    generalize y_fiC : @fiC = x_fiC at *
    generalize y_nC : @nC = x_nC at *
    generalize y_nN : @nN = x_nN at *
    generalize y_sC : @sC = x_sC at *
    (repeat' first | (with_reducible refine ⟨(_, _, _, _, _, _, _, _, _, _, _), by cbv, ?_, ?_⟩) | ((first | with_reducible refine tr_cut (fun h => ?_) (fun h => ?_) | refine aw_condj (by cbv) (fun h => ?_) (fun h => ?_)) <;> (try simp (disch := omega) only [hj, std, cmpI, cmpB, satB, Bool.not_eq_true, Bool.not_eq_false, decide_eq_true_eq, decide_eq_false_iff_not, beq_iff_eq, bne_iff_ne, bne_eq_false_iff_eq, beq_eq_false_iff_ne, ne_eq, reduceCtorEq, not_true_eq_false, not_false_eq_true, pl0, if_true, cmpS_eq, cmpS_neq, Bool.not_eq_eq_eq_not, Bool.not_true, Bool.not_false, Bool.not_eq_true', add64, sub64] at h) <;> (try (exfalso; omega))) | (with_reducible refine tr_alt (fun h => ?_) ?_ <;> (try (exfalso; omega))) | (with_reducible first | refine tr_ob ?_ ?_ | refine tr_done ?_) | (refine aw_tr hj tok ((bookDP x_nsN x_nsC x_fewA x_awN x_hasD x_getD x_fiC) p1 p2 pn po hg1 hg2 hg3 hg4 hg5 hg6) (by cbv) ?_) | (refine aw_seq fun K hK => ?_) | (refine aw_tr1 hj tok ((bookDP x_nsN x_nsC x_fewA x_awN x_hasD x_getD x_fiC) p1 p2 pn po hg1 hg2 hg3 hg4 hg5 hg6) (by cbv) ?_) | (refine aw_skip ?_) | (refine aw_block ?_) | (refine aw_exit ?_) | (refine aw_ret ⟨.inr rfl, ret_okj hj (by cbv) ?_ ?_⟩) | (refine aw_ret ?_) | (with_reducible first | refine th_n ?_ | refine th_r ?_ | refine th_x ?_ | refine blk_n ?_ | refine blk_r ?_ | refine blk_x ?_ | refine blk_y rfl ?_) | (refine ⟨.inr rfl, ret_okj hj (by cbv) ?_ ?_⟩) | (refine ⟨.inl rfl, ret_okj hj (by cbv) ?_ ?_⟩) | (with_reducible refine ⟨_, by cbv, ?_, ?_⟩) | (with_reducible apply_assumption -symm -exfalso only [*]))
    all_goals ((try subst y_nsN); (try subst y_nsC); (try subst y_fewA); (try subst y_awN); (try subst y_hasD); (try subst y_getD); (try subst y_fiC); (try subst y_nC); (try subst y_nN); (try subst y_sC))
    all_goals (try (repeat' first | with_reducible exact obl0 | (with_reducible refine obl1 ?_ ?_)))
    all_goals (try first | with_reducible exact True.intro | ((first | refine ob_le hj ?_ | refine ob_lei hj ?_ | refine ob_inb hj ?_ | refine ob_pos hj ?_ | refine ob_ne0 hj ?_ | refine ob_eqb hj ?_); (first | rfl | first | omega | (simp only [hj, std]; split <;> omega) | (simp (disch := omega) only [hj, std, cmpI, cmpB, satB, add64, sub64, ite0, pl0, pl2, pl3, sb0, if_true, if_false, eq_self] <;> omega) | (simp (disch := omega) [hj, std, cmpI, cmpB, satB, add64, sub64, ite0, pl0, pl2, pl3, sb0, if_true, if_false, eq_self] <;> omega))) | ((simp (disch := omega) only [hj, std, add64]; first | omega | (rw [f1]; exact ⟨by omega, by omega, ⟨p1, p2, pn, po⟩, d', I', rfl, rfl, rfl, rfl, hg1', hg2', hg3', hg4', hg5', hg6'⟩))))
 ·have e : i.toNat = m := by omega
  have bb1 := I.b1
  have cG := c_GetD p.m1 p.m2 p.n p.os nm I.r1.mi
  have cF9 : pc 35 [.v false [.sl (nN d.l1) (nC d.l1)], .v false [vS nm]] (ret1 (.st (vI (fiC (nC d.l1) nm)))) := c_Find9 d.l1 nm (by omega)
  have hfi : fiC (nC d.l1) nm = findL d.l1 nm := by unfold fiC; rw [nmsOf_nC]
  have hfl := findL_le d.l1 nm
  have hha := I.r1.has nm
  have hno := @get_no p.m1 nm
  have hnn := nN_eq d.l1
  have hcl := nC_len d.l1
  have hat : 0 ≤ findL d.l1 nm → getD p.m1 nm = (nAt d.l1 (findL d.l1 nm).toNat).2 ∧ cellAt (nC d.l1) ((findL d.l1 nm).toNat * 2 + 1) = vI (nAt d.l1 (findL d.l1 nm).toNat).2 := fun h => ⟨I.r1.get (find_at h), (nC_at d.l1 _ (by omega)).2⟩
  generalize nAt d.l1 (findL d.l1 nm).toNat = X at hat
  rw [← hfi] at hfl hha hat
  rw [← h1, ← h2, ← h3, ← h4] at cG
  rw [← h5, ← h6] at cF9
  rw [← h6] at hfl hha hat hcl
  rw [← h5] at hnn hcl
  rw [← h1] at hha hno hat
  rw [← hnn] at hfl
  clear hfi h1 h2 h3 h4 h5 h6 h7 h8 h9 h10 I bb1 hA eF cF hfk
  cases hh : hasD m1 nm with
  | true =>
   obtain ⟨q1, q2⟩ := hat (hha.1 hh)
   have q0 := hha.1 hh
   have q3 : gi (cellAt b1 ((fiC b1 nm).toNat * 2 + 1)) = X.2 := by rw [q2]; rfl
   generalize y_nsN : @nsN = x_nsN at *
   generalize y_nsC : @nsC = x_nsC at *
   generalize y_fewA : @fewA = x_fewA at *
   generalize y_awN : @awN = x_awN at *
   generalize y_hasD : @hasD = x_hasD at *
   generalize y_getD : @getD = x_getD at *
   generalize y_fiC : @fiC = x_fiC at *
   generalize y_nC : @nC = x_nC at *
   generalize y_nN : @nN = x_nN at *
   generalize y_sC : @sC = x_sC at *
   (repeat' first | ((first | with_reducible refine tr_cut (fun h => ?_) (fun h => ?_) | refine aw_condj (by cbv) (fun h => ?_) (fun h => ?_)) <;> (try simp (disch := omega) only [hj, std, cmpI, cmpB, satB, Bool.not_eq_true, Bool.not_eq_false, decide_eq_true_eq, decide_eq_false_iff_not, beq_iff_eq, bne_iff_ne, bne_eq_false_iff_eq, beq_eq_false_iff_ne, ne_eq, reduceCtorEq, not_true_eq_false, not_false_eq_true, pl0, if_true, cmpS_eq, cmpS_neq, Bool.not_eq_eq_eq_not, Bool.not_true, Bool.not_false, Bool.not_eq_true', hh, q1, q3, ite0, add64, sub64] at h) <;> (try (exfalso; omega))) | (with_reducible refine tr_alt (fun h => ?_) ?_ <;> (try (exfalso; omega))) | (with_reducible first | refine tr_ob ?_ ?_ | refine tr_done ?_) | (refine aw_tr hj tok ((bookDP x_nsN x_nsC x_fewA x_awN x_hasD x_getD x_fiC) awN awN 0 [] 0 [] 0 [] 0 []) (by cbv) ?_) | (refine aw_seq fun K hK => ?_) | (refine aw_tr1 hj tok ((bookDP x_nsN x_nsC x_fewA x_awN x_hasD x_getD x_fiC) awN awN 0 [] 0 [] 0 [] 0 []) (by cbv) ?_) | (refine aw_skip ?_) | (refine aw_block ?_) | (refine aw_exit ?_) | (refine aw_ret ⟨.inr rfl, ret_okj hj (by cbv) ?_ ?_⟩) | (refine aw_ret ?_) | (with_reducible first | refine th_n ?_ | refine th_r ?_ | refine th_x ?_ | refine blk_n ?_ | refine blk_r ?_ | refine blk_x ?_ | refine blk_y rfl ?_) | (refine ⟨.inr rfl, ret_okj hj (by cbv) ?_ ?_⟩) | (refine ⟨.inl rfl, ret_okj hj (by cbv) ?_ ?_⟩) | (with_reducible refine ⟨_, by cbv, ?_, ?_⟩) | (with_reducible apply_assumption -symm -exfalso only [*]))
   all_goals ((try subst y_nsN); (try subst y_nsC); (try subst y_fewA); (try subst y_awN); (try subst y_hasD); (try subst y_getD); (try subst y_fiC); (try subst y_nC); (try subst y_nN); (try subst y_sC))
   all_goals (try (repeat' first | with_reducible exact obl0 | (with_reducible refine obl1 ?_ ?_)))
   all_goals (try first | with_reducible exact True.intro | ((first | refine ob_pc hj ?_ | refine ob_pcn hj ?_); (try rw [hj]); first | exact cG | exact cF9 | exact c_awake09) | ((first | refine ob_le hj ?_ | refine ob_lei hj ?_ | refine ob_inb hj ?_ | refine ob_pos hj ?_ | refine ob_ne0 hj ?_ | refine ob_eqb hj ?_); (first | rfl | first | omega | (simp only [hj, std]; split <;> omega) | (simp (disch := omega) only [hj, std, cmpI, cmpB, satB, add64, sub64, ite0, pl0, pl2, pl3, sb0, if_true, if_false, eq_self, hcl] <;> omega) | (simp (disch := omega) [hj, std, cmpI, cmpB, satB, add64, sub64, ite0, pl0, pl2, pl3, sb0, if_true, if_false, eq_self, hcl] <;> omega))) | ((refine ob_ok hj ?_; simp only [hj, std, ite0]; exact ⟨_, q2⟩)) | (exact rfl) | ((exact absurd (decide_eq_true (p := fiC b1 nm ≥ 0) (by omega)).symm (by assumption))))
  | false =>
   have q0 : fiC b1 nm < 0 := by
    rcases Int.lt_or_le (fiC b1 nm) 0 with h | h
    ·exact h
    ·rw [hha.2 h] at hh; cases hh
   have q1 := hno hh
   generalize y_nsN : @nsN = x_nsN at *
   generalize y_nsC : @nsC = x_nsC at *
   generalize y_fewA : @fewA = x_fewA at *
   generalize y_awN : @awN = x_awN at *
   generalize y_hasD : @hasD = x_hasD at *
   generalize y_getD : @getD = x_getD at *
   generalize y_fiC : @fiC = x_fiC at *
   generalize y_nC : @nC = x_nC at *
   generalize y_nN : @nN = x_nN at *
   generalize y_sC : @sC = x_sC at *
   (repeat' first | ((first | with_reducible refine tr_cut (fun h => ?_) (fun h => ?_) | refine aw_condj (by cbv) (fun h => ?_) (fun h => ?_)) <;> (try simp (disch := omega) only [hj, std, cmpI, cmpB, satB, Bool.not_eq_true, Bool.not_eq_false, decide_eq_true_eq, decide_eq_false_iff_not, beq_iff_eq, bne_iff_ne, bne_eq_false_iff_eq, beq_eq_false_iff_ne, ne_eq, reduceCtorEq, not_true_eq_false, not_false_eq_true, pl0, if_true, cmpS_eq, cmpS_neq, Bool.not_eq_eq_eq_not, Bool.not_true, Bool.not_false, Bool.not_eq_true', hh, q1, ite0, add64, sub64] at h) <;> (try (exfalso; omega))) | (with_reducible refine tr_alt (fun h => ?_) ?_ <;> (try (exfalso; omega))) | (with_reducible first | refine tr_ob ?_ ?_ | refine tr_done ?_) | (refine aw_tr hj tok ((bookDP x_nsN x_nsC x_fewA x_awN x_hasD x_getD x_fiC) awN awN 0 [] 0 [] 0 [] 0 []) (by cbv) ?_) | (refine aw_seq fun K hK => ?_) | (refine aw_tr1 hj tok ((bookDP x_nsN x_nsC x_fewA x_awN x_hasD x_getD x_fiC) awN awN 0 [] 0 [] 0 [] 0 []) (by cbv) ?_) | (refine aw_skip ?_) | (refine aw_block ?_) | (refine aw_exit ?_) | (refine aw_ret ⟨.inr rfl, ret_okj hj (by cbv) ?_ ?_⟩) | (refine aw_ret ?_) | (with_reducible first | refine th_n ?_ | refine th_r ?_ | refine th_x ?_ | refine blk_n ?_ | refine blk_r ?_ | refine blk_x ?_ | refine blk_y rfl ?_) | (refine ⟨.inr rfl, ret_okj hj (by cbv) ?_ ?_⟩) | (refine ⟨.inl rfl, ret_okj hj (by cbv) ?_ ?_⟩) | (with_reducible refine ⟨_, by cbv, ?_, ?_⟩) | (with_reducible apply_assumption -symm -exfalso only [*]))
   all_goals ((try subst y_nsN); (try subst y_nsC); (try subst y_fewA); (try subst y_awN); (try subst y_hasD); (try subst y_getD); (try subst y_fiC); (try subst y_nC); (try subst y_nN); (try subst y_sC))
   all_goals (try (repeat' first | with_reducible exact obl0 | with_reducible refine obl1 ?_ ?_))
   all_goals (try first | with_reducible exact True.intro | ((first | refine ob_pc hj ?_ | refine ob_pcn hj ?_); (try rw [hj]); first | exact cG | exact cF9 | exact c_awake09) | ((first | refine ob_le hj ?_ | refine ob_lei hj ?_ | refine ob_inb hj ?_ | refine ob_pos hj ?_ | refine ob_ne0 hj ?_ | refine ob_eqb hj ?_); (first | rfl | first | omega | (simp only [hj, std]; split <;> omega) | (simp (disch := omega) only [hj, std, cmpI, cmpB, satB, add64, sub64, ite0, pl0, pl2, pl3, sb0, if_true, if_false, eq_self, hcl] <;> omega) | (simp (disch := omega) [hj, std, cmpI, cmpB, satB, add64, sub64, ite0, pl0, pl2, pl3, sb0, if_true, if_false, eq_self, hcl] <;> omega))) | (exact rfl) | ((exact absurd (decide_eq_false (p := fiC b1 nm ≥ 0) (by omega)).symm (by assumption))))
end Go.Proofs.Ytnmlcfjljeccnaa.A
/- The acts of layer 9 as an argument. -/
set_option linter.unusedSimpArgs false
set_option linter.unusedVariables false
set_option maxRecDepth 100000
set_option maxHeartbeats 4000000
namespace Go.Proofs.Ytnmlcfjljeccnaa
open Go.RowKit Go.ChangeShapes Go.WideShapes Go.ChangeAt
def RRec5 {α β γ δ ε : Type} (A : Rd α) (B : Rd β) (C : Rd γ) (D : Rd δ) (E : Rd ε) : Rd (α × β × γ × δ × ε) := fun w cs x => ∃ c0 c1 c2 c3 c4, cs = [c0, c1, c2, c3, c4] ∧ A w [c0] x.1 ∧ B w [c1] x.2.1 ∧ C w [c2] x.2.2.1 ∧ D w [c3] x.2.2.2.1 ∧ E w [c4] x.2.2.2.2
theorem lk_rec5 {H : Type} {enc : TypeId × Value → H} {P : Program} {w : World} {α β γ δ ε : Type} {A : Rd α} {B : Rd β} {C : Rd γ} {D : Rd δ} {E : Rd ε} {t : TypeId} {f0 f1 f2 f3 f4 : Field} (ht : P.underlying t = some (.struct #[f0, f1, f2, f3, f4]))
  (ho : (f0.offset, f1.offset, f2.offset, f3.offset, f4.offset, P.cellsOf f0.type, P.cellsOf f1.type, P.cellsOf f2.type, P.cellsOf f3.type, P.cellsOf f4.type, P.cellsOf t) = (0, 1, 2, 3, 4, 1, 1, 1, 1, 1, 5))
  (ha : Lk enc P w f0.type A) (hb : Lk enc P w f1.type B) (hc : Lk enc P w f2.type C) (hd : Lk enc P w f3.type D) (he : Lk enc P w f4.type E) : Lk enc P w t (RRec5 A B C D E) := by
 intro fuel cs x h hz
 simp only [Prod.mk.injEq] at ho
 obtain ⟨o0, o1, o2, o3, o4, k0, k1, k2, k3, k4, k⟩ := ho
 have hl := lk_len ht h
 rw [k] at hl
 match cs, hl with
 | [c0, c1, c2, c3, c4], _ =>
  obtain ⟨a, h0⟩ := lk_fld ht 0 f0 rfl ha _ _ _ h hz
  obtain ⟨b, h1⟩ := lk_fld ht 1 f1 rfl hb _ _ _ h hz
  obtain ⟨c, h2⟩ := lk_fld ht 2 f2 rfl hc _ _ _ h hz
  obtain ⟨d, h3⟩ := lk_fld ht 3 f3 rfl hd _ _ _ h hz
  obtain ⟨e, h4⟩ := lk_fld ht 4 f4 rfl he _ _ _ h hz
  rw [o0, k0] at h0; rw [o1, k1] at h1; rw [o2, k2] at h2; rw [o3, k3] at h3; rw [o4, k4] at h4
  exact ⟨(a, b, c, d, e), c0, c1, c2, c3, c4, rfl, h0, h1, h2, h3, h4⟩
end Go.Proofs.Ytnmlcfjljeccnaa
namespace Go.Proofs.Ytnmlcfjljeccnaa.A
open Go
theorem rdc_rec5 {α β γ δ ε : Type} {A : Rd α} {B : Rd β} {D : Rd γ} {E : Rd δ} {F : Rd ε} {f : α → List C} {g : β → List C} {h : γ → List C} {k : δ → List C} {l : ε → List C} (ha : RdC A f) (hb : RdC B g) (hd : RdC D h) (he : RdC E k) (hf : RdC F l) :
  RdC (RRec5 A B D E F) fun x => f x.1 ++ (g x.2.1 ++ (h x.2.2.1 ++ (k x.2.2.2.1 ++ l x.2.2.2.2))) := by
 rintro w cs x ⟨c0, c1, c2, c3, c4, rfl, h1, h2, h3, h4, h5⟩
 exact rdc_pair (s1 := 1) (s2 := 4) ha (rdc_pair (s1 := 1) (s2 := 3) hb (rdc_pair (s1 := 1) (s2 := 2) hd (rdc_pair (s1 := 1) (s2 := 1) he hf))) w _ x ⟨[c0], [c1, c2, c3, c4], rfl, rfl, rfl, h1, ⟨[c1], [c2, c3, c4], rfl, rfl, rfl, h2, ⟨[c2], [c3, c4], rfl, rfl, rfl, h3, ⟨[c3], [c4], rfl, rfl, rfl, h4, h5⟩⟩⟩⟩
abbrev Da := Int × ByteArray × ByteArray × Int × List Bool
abbrev RDAct : Rd Da := RRec5 RInt RStr RStr RInt (RSl 1 1 RBool)
def kbC (l : List Bool) : List C := l.flatMap fun b => [vB b]
def daOf (a : Da) : List C := [vI a.1] ++ ([vS a.2.1] ++ ([vS a.2.2.1] ++ ([vI a.2.2.2.1] ++ [.sl a.2.2.2.2.length (kbC a.2.2.2.2)])))
theorem rdc_dact : RdC RDAct daOf := rdc_rec5 rdc_int rdc_str rdc_str rdc_int (rdc_sl rdc_bool (fun _ => rfl))
theorem kbC_eq (l : List Bool) : kbC l = l.map vB := by
 unfold kbC
 induction l with
 | nil => rfl
 | cons x l ih => rw [List.flatMap_cons, ih]; rfl
theorem kbC_ok (l : List Bool) (q : Nat) (h : q < l.length) : okK .bool (cellAt (kbC l) q) := by
 rw [kbC_eq]
 unfold cellAt
 rw [List.getD_eq_getElem?_getD, List.getElem?_map, List.getElem?_eq_getElem h]
 exact ⟨_, rfl⟩
theorem da_at : ∀ (l : List Da) (k : Nat) (h : k < l.length) (q : Nat), q < 5 → cellAt (l.flatMap daOf) (k * 5 + q) = (daOf l[k]).getD q .nil := by
 intro l
 induction l with
 | nil => intro k h; exact absurd h (by simp)
 | cons a l ih =>
  intro k h q hq
  cases k with
  | zero =>
   unfold cellAt
   rw [List.flatMap_cons, List.getD_eq_getElem?_getD, List.getElem?_append_left (by show 0 * 5 + q < 5; omega), Nat.zero_mul, Nat.zero_add, ← List.getD_eq_getElem?_getD]; rfl
  | succ k =>
   have := ih k (by simpa using h) q hq
   unfold cellAt at this ⊢
   rw [List.flatMap_cons, List.getD_eq_getElem?_getD, List.getElem?_append_right (by show 5 ≤ (k + 1) * 5 + q; omega), ← List.getD_eq_getElem?_getD]
   have e : (k + 1) * 5 + q - (daOf a).length = k * 5 + q := by show (k + 1) * 5 + q - 5 = _; omega
   rw [e, this]; rfl
theorem da_len (l : List Da) : (l.flatMap daOf).length = l.length * 5 := by
 induction l with
 | nil => rfl
 | cons x l ih => rw [List.flatMap_cons, List.length_append, ih, List.length_cons]; show 5 + _ = _; omega
theorem da_acts {w : World} {cs : List Value} {x : List Da} (R : RSl 5 72 RDAct w cs x) : ∀ k, k < x.length → ∃ kd a b q kn ks, ActD (x.flatMap daOf) k kd a b q kn ks := fun k hk => by
 obtain ⟨cs', d0, d1, d2, d3, d4, _, _, _, _, _, h5⟩ := sl_mem' R x[k] (List.getElem_mem hk)
 have k5 := sl_bound' h5
 have q := da_at x k hk
 exact ⟨x[k].1, x[k].2.1, x[k].2.2.1, x[k].2.2.2.1, x[k].2.2.2.2.length, kbC x[k].2.2.2.2, by simpa [daOf] using q 0 (by omega), by simpa [daOf] using q 1 (by omega), by simpa [daOf] using q 2 (by omega), by simpa [daOf] using q 3 (by omega), by simpa [daOf] using q 4 (by omega), by rw [kbC_eq, List.length_map], by omega, fun r hr => kbC_ok _ r hr⟩
end Go.Proofs.Ytnmlcfjljeccnaa.A
/- DirPlays: the walk, as the row's step asks for it. -/
set_option linter.unusedSimpArgs false
set_option linter.unusedVariables false
set_option maxRecDepth 100000
set_option maxHeartbeats 4000000
namespace Go.Proofs.Ytnmlcfjljeccnaa
open Go Go.RowKit
theorem dirPlays_walk (w : World) (a0 : Option Addr) (len0 cap0 : Nat) (x0 : List A.Da) (R0 : RSl 5 72 A.RDAct w [.slice a0 len0 cap0] x0) (a1 : ByteArray) (b1 : a1.size ≤ 140737488351232) :
    Calls Try.prog 5 #[.slice a0 len0 cap0, .string a1] w fun e w' => e = .returned (.bool true) ∧ Below w.heap.size w w' := by
  have hb0 := A.sl_bound' R0
  exact A.walk_of_pc (vs := [.slice a0 len0 cap0, .string a1]) (A.pc_DirPlaysL x0.length (x0.flatMap A.daOf) a1 (A.da_len x0) (by omega) (A.da_acts R0)) (by simp [A.Arg.asRoot]) (fun b => b < w.heap.size) (fun _ h => h) rfl (fun i h h2 => by
    have h3 : i < 2 := h
    match i, h3 with
    | 0, _ =>
      obtain ⟨n, rfl, hc⟩ := A.arg_sl A.rdc_dact (fun _ => rfl) R0
      exact ⟨_, rfl, hc⟩
    | 1, _ => exact ⟨_, rfl, .val rfl⟩)
end Go.Proofs.Ytnmlcfjljeccnaa
