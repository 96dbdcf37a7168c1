/- What the laws of this seat need, part 6. -/
import Derived.Test.YtgimfjmigoibgaaMz5
/- Grammars: two that are the same; the law GramValid. -/
set_option linter.unusedSimpArgs false
set_option linter.unusedVariables false
set_option maxRecDepth 100000
set_option maxHeartbeats 4000000
namespace Go.Proofs.Ytgimfjmigoibgaa.A
open Go
abbrev sameG (a1 b1 : List ByteArray) (c1 : List Rl) (a2 b2 : List ByteArray) (c2 : List Rl) : Bool := sameS a1 a2 && (sameS b1 b2 && sameL2 c1 c2)
def sameGr (a1 b1 : List ByteArray) (c1 : List Rl) (a2 b2 : List ByteArray) (c2 : List Rl) : Bool := sameG a1 b1 c1 a2 b2 c2
theorem sameGr_iff {a1 b1 a2 b2 : List ByteArray} {c1 c2 : List Rl} : sameGr a1 b1 c1 a2 b2 c2 = true ↔ a1 = a2 ∧ b1 = b2 ∧ c1 = c2 := by
 unfold sameGr sameG; rw [Bool.and_eq_true, Bool.and_eq_true, sameS_iff, sameS_iff, sameL2_iff]
theorem sameGr_no {a1 b1 a2 b2 : List ByteArray} {c1 c2 : List Rl} (h : ¬ (a1 = a2 ∧ b1 = b2 ∧ c1 = c2)) : sameGr a1 b1 c1 a2 b2 c2 = false := by
 cases e : sameGr a1 b1 c1 a2 b2 c2 with
 | false => rfl
 | true => exact absurd (sameGr_iff.1 e) h
def bookSm (x_intsOf : List C → List Int) (x_rlsOf : List C → List Rl) (x_sameI : List Int → List Int → Bool) (x_sameL2 : List Rl → List Rl → Bool) (x_strsOf : List C → List ByteArray) (x_sameS : List ByteArray → List ByteArray → Bool) : Book := fun f xs => match f, xs with
 | 43, [.v false [.sl _ l], .v false [.sl _ m]] => some (ret1 (.st (vB (x_sameS (x_strsOf l) (x_strsOf m)))))
 | 44, [.v false [.sl _ l], .v false [.sl _ m], .fn 45] => some (ret1 (.st (vB (x_sameL2 (x_rlsOf l) (x_rlsOf m)))))
 | 46, [.v false [.sl _ cs], .v false [.sl _ ds]] => some (ret1 (.st (vB (x_sameI (x_intsOf cs) (x_intsOf ds)))))
 | _, _ => none
structure GrL (ns ts : List ByteArray) (rs : List Rl) : Prop where
 n : nS ns < 4611686018427387904
 t : nS ts < 4611686018427387904
 r : nR rs < 2305843009213693952
 i : ∀ r ∈ rs, nI r.2 < 4611686018427387904
theorem Sml.l {ns ts : List ByteArray} {rs : List Rl} (h : Sml ns ts rs) : GrL ns ts rs := ⟨by have := h.n; omega, by have := h.t; omega, by have := h.r; omega, fun r hr => by have := h.i r hr; omega⟩
theorem pc_Same14 (a1 b1 : List ByteArray) (c1 : List Rl) (a2 b2 : List ByteArray) (c2 : List Rl) (h1 : GrL a1 b1 c1) (h2 : GrL a2 b2 c2) :
  PC Try.prog T 21 [.v true [(C.sl (nS a1) (sC a1)), (C.sl (nS b1) (sC b1)), (C.sl (nR c1) (rC c1))], .v true [(C.sl (nS a2) (sC a2)), (C.sl (nS b2) (sC b2)), (C.sl (nR c2) (rC c2))]] (ret1 (.st (vB (sameGr a1 b1 c1 a2 b2 c2)))) [] := by
 have g1 := h1.n; have g2 := h1.t; have g3 := h1.r; have g4 := h2.n; have g5 := h2.t; have g6 := h2.r
 have n1 := nS_eq a1; have n2 := nS_eq a2; have n3 := nS_eq b1; have n4 := nS_eq b2; have n5 := nR_eq c1; have n6 := nR_eq c2
 refine pc_of tok Try.func21 rfl (by rfl) ?_
 obtain ⟨j, hj⟩ : ∃ j : J, j = std Try.prog T := ⟨_, rfl⟩
 have hm : Try.prog.follows .mixedOrders = true := by kernel_rfl
 generalize y_intsOf : @intsOf = x_intsOf at *
 generalize y_rlsOf : @rlsOf = x_rlsOf at *
 generalize y_sameI : @sameI = x_sameI at *
 generalize y_sameL2 : @sameL2 = x_sameL2 at *
 generalize y_strsOf : @strsOf = x_strsOf at *
 generalize y_sameS : @sameS = x_sameS at *
 generalize y_rC : @rC = x_rC at *
 generalize y_nR : @nR = x_nR at *
 generalize y_sameGr : @sameGr = x_sameGr at *
 generalize y_sC : @sC = x_sC at *
 generalize y_nS : @nS = x_nS at *
 (repeat' first | ((first | with_reducible refine tr_cut (fun h => ?_) (fun h => ?_) | refine aw_condj (by cbv) (fun h => ?_) (fun h => ?_)) <;> (try simp (disch := omega) only [hj, std, cmpI, cmpB, satB, Bool.not_eq_true, Bool.not_eq_false, decide_eq_true_eq, decide_eq_false_iff_not, beq_iff_eq, bne_iff_ne, bne_eq_false_iff_eq, beq_eq_false_iff_ne, ne_eq, reduceCtorEq, not_true_eq_false, not_false_eq_true, pl0, if_true, cmpS_eq, cmpS_neq, Bool.not_eq_eq_eq_not, Bool.not_true, Bool.not_false, Bool.not_eq_true', add64, sub64] at h) <;> (try (exfalso; omega))) | (with_reducible refine tr_alt (fun h => ?_) ?_ <;> (try (exfalso; omega))) | (with_reducible first | refine tr_ob ?_ ?_ | refine tr_done ?_) | (refine aw_tr hj tok (bookSm x_intsOf x_rlsOf x_sameI x_sameL2 x_strsOf x_sameS) (by cbv) ?_) | (refine aw_seq fun K hK => ?_) | (refine aw_tr1 hj tok (bookSm x_intsOf x_rlsOf x_sameI x_sameL2 x_strsOf x_sameS) (by cbv) ?_) | (refine aw_skip ?_) | (refine aw_block ?_) | (refine aw_exit ?_) | (refine aw_ret ⟨.inr rfl, ret_okj hj (by cbv) ?_ ?_⟩) | (refine aw_ret ?_) | (with_reducible first | refine th_n ?_ | refine th_r ?_ | refine th_x ?_ | refine blk_n ?_ | refine blk_r ?_ | refine blk_x ?_ | refine blk_y rfl ?_) | (refine ⟨.inr rfl, ret_okj hj (by cbv) ?_ ?_⟩) | (refine ⟨.inl rfl, ret_okj hj (by cbv) ?_ ?_⟩) | (with_reducible refine ⟨_, by cbv, ?_, ?_⟩) | (with_reducible apply_assumption -symm -exfalso only [*]))
 all_goals ((try subst y_intsOf); (try subst y_rlsOf); (try subst y_sameI); (try subst y_sameL2); (try subst y_strsOf); (try subst y_sameS); (try subst y_rC); (try subst y_nR); (try subst y_sameGr); (try subst y_sC); (try subst y_nS))
 all_goals (try (repeat' first | with_reducible exact obl0 | (with_reducible refine obl1 ?_ ?_)))
 all_goals (try first | with_reducible exact True.intro | ((first | refine ob_le hj ?_ | refine ob_lei hj ?_ | refine ob_inb hj ?_ | refine ob_pos hj ?_ | refine ob_ne0 hj ?_ | refine ob_eqb hj ?_); (first | rfl | first | omega | (simp only [hj, std]; split <;> omega) | (simp (disch := omega) only [hj, std, cmpI, cmpB, satB, add64, sub64, ite0, pl0, pl2, pl3, sb0, if_true, if_false, eq_self] <;> omega) | (simp (disch := omega) [hj, std, cmpI, cmpB, satB, add64, sub64, ite0, pl0, pl2, pl3, sb0, if_true, if_false, eq_self] <;> omega))) | ((refine r1b ?_; refine sameGr_no fun q => ?_; obtain ⟨rfl, rfl, rfl⟩ := q; omega)))
 refine aw_lpj hj [(2, .keep), (3, .keep), (5, .keep)] [2, 3] (fun (i : Int) => stOf 105 [(2, .one (.ptr 2 0)), (3, .one (.ptr 3 0)), (5, .one (.c (vI i)))] [(2, .box [.st ((C.sl (nS a1) (sC a1))), .st ((C.sl (nS b1) (sC b1))), .st ((C.sl (nR c1) (rC c1)))]), (3, .box [.st ((C.sl (nS a2) (sC a2))), .st ((C.sl (nS b2) (sC b2))), .st ((C.sl (nR c2) (rC c2)))])]) (fun (i : Int) => nS a1 - i.toNat) (fun (i : Int) => 0 ≤ i ∧ i ≤ nS a1 ∧ ∀ n : Nat, (n : Int) < i → sAt a1 n = sAt a2 n) (0) (by generalize @intsOf = x_intsOf; generalize @rlsOf = x_rlsOf; generalize @sameI = x_sameI; generalize @sameL2 = x_sameL2; generalize @strsOf = x_strsOf; generalize @sameS = x_sameS; generalize @rC = x_rC; generalize @nR = x_nR; generalize @sameGr = x_sameGr; generalize @sC = x_sC; generalize @nS = x_nS; cbv) ?_ (fun i hI => ?_)
 ·exact ⟨by omega, by omega, fun n h => by omega⟩
 obtain ⟨i1, i2, i3⟩ := hI
 generalize y_intsOf : @intsOf = x_intsOf at *
 generalize y_rlsOf : @rlsOf = x_rlsOf at *
 generalize y_sameI : @sameI = x_sameI at *
 generalize y_sameL2 : @sameL2 = x_sameL2 at *
 generalize y_strsOf : @strsOf = x_strsOf at *
 generalize y_sameS : @sameS = x_sameS at *
 generalize y_rC : @rC = x_rC at *
 generalize y_nR : @nR = x_nR at *
 generalize y_sameGr : @sameGr = x_sameGr at *
 generalize y_sC : @sC = x_sC at *
 generalize y_nS : @nS = x_nS at *
 (repeat' first | ((first | with_reducible refine tr_cut (fun h => ?_) (fun h => ?_) | refine aw_condj (by cbv) (fun h => ?_) (fun h => ?_)) <;> (try simp (disch := omega) only [hj, std, cmpI, cmpB, satB, Bool.not_eq_true, Bool.not_eq_false, decide_eq_true_eq, decide_eq_false_iff_not, beq_iff_eq, bne_iff_ne, bne_eq_false_iff_eq, beq_eq_false_iff_ne, ne_eq, reduceCtorEq, not_true_eq_false, not_false_eq_true, pl0, if_true, cmpS_eq, cmpS_neq, Bool.not_eq_eq_eq_not, Bool.not_true, Bool.not_false, Bool.not_eq_true', gs_sC, add64, sub64] at h) <;> (try (exfalso; omega))) | (with_reducible refine tr_alt (fun h => ?_) ?_ <;> (try (exfalso; omega))) | (with_reducible first | refine tr_ob ?_ ?_ | refine tr_done ?_) | (refine aw_dr1 (id := 6) hj tok hm (bookSm x_intsOf x_rlsOf x_sameI x_sameL2 x_strsOf x_sameS) true [(0, false), (1, false), (2, false), (3, false), (4, false), (5, false), (6, false), (7, true), (8, true), (9, true), (10, true)] (by kernel_rfl) (by cbv) ?_) | (refine aw_dr (id := 6) hj tok hm (bookSm x_intsOf x_rlsOf x_sameI x_sameL2 x_strsOf x_sameS) true [(0, false), (1, false), (2, false), (3, false), (4, false), (5, false), (6, false), (7, true), (8, true), (9, true), (10, true)] (by kernel_rfl) (by cbv) ?_) | (refine aw_tr hj tok (bookSm x_intsOf x_rlsOf x_sameI x_sameL2 x_strsOf x_sameS) (by cbv) ?_) | (refine aw_seq fun K hK => ?_) | (refine aw_tr1 hj tok (bookSm x_intsOf x_rlsOf x_sameI x_sameL2 x_strsOf x_sameS) (by cbv) ?_) | (refine aw_skip ?_) | (refine aw_block ?_) | (refine aw_exit ?_) | (refine aw_ret ⟨.inr rfl, ret_okj hj (by cbv) ?_ ?_⟩) | (refine aw_ret ?_) | (with_reducible first | refine th_n ?_ | refine th_r ?_ | refine th_x ?_ | refine blk_n ?_ | refine blk_r ?_ | refine blk_x ?_ | refine blk_y rfl ?_) | (refine ⟨.inr rfl, ret_okj hj (by cbv) ?_ ?_⟩) | (refine ⟨.inl rfl, ret_okj hj (by cbv) ?_ ?_⟩) | (with_reducible refine ⟨_, by cbv, ?_, ?_⟩) | (with_reducible apply_assumption -symm -exfalso only [*]))
 all_goals ((try subst y_intsOf); (try subst y_rlsOf); (try subst y_sameI); (try subst y_sameL2); (try subst y_strsOf); (try subst y_sameS); (try subst y_rC); (try subst y_nR); (try subst y_sameGr); (try subst y_sC); (try subst y_nS))
 all_goals (try have q := ‹gs (cellAt (sC a1) _) = _›)
 all_goals (try have q := ‹¬ gs (cellAt (sC a1) _) = _›)
 all_goals (try rw [gs_sC, gs_sC] at q)
 all_goals (try (repeat' first | with_reducible exact obl0 | (with_reducible refine obl1 ?_ ?_)))
 all_goals (try first | with_reducible exact True.intro | ((first | refine ob_le hj ?_ | refine ob_lei hj ?_ | refine ob_inb hj ?_ | refine ob_pos hj ?_ | refine ob_ne0 hj ?_ | refine ob_eqb hj ?_); (first | rfl | first | omega | (simp only [hj, std]; split <;> omega) | (simp (disch := omega) only [hj, std, cmpI, cmpB, satB, add64, sub64, ite0, pl0, pl2, pl3, sb0, if_true, if_false, eq_self, sC_len] <;> omega) | (simp (disch := omega) [hj, std, cmpI, cmpB, satB, add64, sub64, ite0, pl0, pl2, pl3, sb0, if_true, if_false, eq_self, sC_len] <;> omega))) | ((refine ob_ok hj ?_; simp only [hj, std, ite0]; exact ok_sC (by omega))) | ((refine r1b ?_; refine sameGr_no fun z => ?_; obtain ⟨rfl, rfl, rfl⟩ := z; exact q rfl)) | ((simp (disch := omega) only [hj, std, add64]; first | omega | (refine ⟨by omega, by omega, fun n hn => ?_⟩; by_cases e : (n : Int) < i; exact i3 n e; obtain rfl : n = i.toNat := (by omega); exact q))))
 have hA : a1 = a2 := ext_sAt (by omega) fun n hn => i3 n (by omega)
 clear i3
 refine aw_lpj hj [(2, .keep), (3, .keep), (6, .keep)] [2, 3] (fun (k : Int) => stOf 105 [(2, .one (.ptr 2 0)), (3, .one (.ptr 3 0)), (6, .one (.c (vI k)))] [(2, .box [.st ((C.sl (nS a1) (sC a1))), .st ((C.sl (nS b1) (sC b1))), .st ((C.sl (nR c1) (rC c1)))]), (3, .box [.st ((C.sl (nS a2) (sC a2))), .st ((C.sl (nS b2) (sC b2))), .st ((C.sl (nR c2) (rC c2)))])]) (fun (k : Int) => nS b1 - k.toNat) (fun (k : Int) => 0 ≤ k ∧ k ≤ nS b1 ∧ ∀ n : Nat, (n : Int) < k → sAt b1 n = sAt b2 n) (0) (by generalize @intsOf = x_intsOf; generalize @rlsOf = x_rlsOf; generalize @sameI = x_sameI; generalize @sameL2 = x_sameL2; generalize @strsOf = x_strsOf; generalize @sameS = x_sameS; generalize @rC = x_rC; generalize @nR = x_nR; generalize @sameGr = x_sameGr; generalize @sC = x_sC; generalize @nS = x_nS; cbv) ?_ (fun k hI => ?_)
 ·exact ⟨by omega, by omega, fun n h => by omega⟩
 obtain ⟨k1, k2, k3⟩ := hI
 generalize y_intsOf : @intsOf = x_intsOf at *
 generalize y_rlsOf : @rlsOf = x_rlsOf at *
 generalize y_sameI : @sameI = x_sameI at *
 generalize y_sameL2 : @sameL2 = x_sameL2 at *
 generalize y_strsOf : @strsOf = x_strsOf at *
 generalize y_sameS : @sameS = x_sameS at *
 generalize y_rC : @rC = x_rC at *
 generalize y_nR : @nR = x_nR at *
 generalize y_sameGr : @sameGr = x_sameGr at *
 generalize y_sC : @sC = x_sC at *
 generalize y_nS : @nS = x_nS at *
 (repeat' first | ((first | with_reducible refine tr_cut (fun h => ?_) (fun h => ?_) | refine aw_condj (by cbv) (fun h => ?_) (fun h => ?_)) <;> (try simp (disch := omega) only [hj, std, cmpI, cmpB, satB, Bool.not_eq_true, Bool.not_eq_false, decide_eq_true_eq, decide_eq_false_iff_not, beq_iff_eq, bne_iff_ne, bne_eq_false_iff_eq, beq_eq_false_iff_ne, ne_eq, reduceCtorEq, not_true_eq_false, not_false_eq_true, pl0, if_true, cmpS_eq, cmpS_neq, Bool.not_eq_eq_eq_not, Bool.not_true, Bool.not_false, Bool.not_eq_true', gs_sC, add64, sub64] at h) <;> (try (exfalso; omega))) | (with_reducible refine tr_alt (fun h => ?_) ?_ <;> (try (exfalso; omega))) | (with_reducible first | refine tr_ob ?_ ?_ | refine tr_done ?_) | (refine aw_dr1 (id := 11) hj tok hm (bookSm x_intsOf x_rlsOf x_sameI x_sameL2 x_strsOf x_sameS) true [(0, false), (1, false), (2, false), (3, false), (4, false), (5, false), (6, false), (7, true), (8, true), (9, true), (10, true)] (by kernel_rfl) (by cbv) ?_) | (refine aw_dr (id := 11) hj tok hm (bookSm x_intsOf x_rlsOf x_sameI x_sameL2 x_strsOf x_sameS) true [(0, false), (1, false), (2, false), (3, false), (4, false), (5, false), (6, false), (7, true), (8, true), (9, true), (10, true)] (by kernel_rfl) (by cbv) ?_) | (refine aw_tr hj tok (bookSm x_intsOf x_rlsOf x_sameI x_sameL2 x_strsOf x_sameS) (by cbv) ?_) | (refine aw_seq fun K hK => ?_) | (refine aw_tr1 hj tok (bookSm x_intsOf x_rlsOf x_sameI x_sameL2 x_strsOf x_sameS) (by cbv) ?_) | (refine aw_skip ?_) | (refine aw_block ?_) | (refine aw_exit ?_) | (refine aw_ret ⟨.inr rfl, ret_okj hj (by cbv) ?_ ?_⟩) | (refine aw_ret ?_) | (with_reducible first | refine th_n ?_ | refine th_r ?_ | refine th_x ?_ | refine blk_n ?_ | refine blk_r ?_ | refine blk_x ?_ | refine blk_y rfl ?_) | (refine ⟨.inr rfl, ret_okj hj (by cbv) ?_ ?_⟩) | (refine ⟨.inl rfl, ret_okj hj (by cbv) ?_ ?_⟩) | (with_reducible refine ⟨_, by cbv, ?_, ?_⟩) | (with_reducible apply_assumption -symm -exfalso only [*]))
 all_goals ((try subst y_intsOf); (try subst y_rlsOf); (try subst y_sameI); (try subst y_sameL2); (try subst y_strsOf); (try subst y_sameS); (try subst y_rC); (try subst y_nR); (try subst y_sameGr); (try subst y_sC); (try subst y_nS))
 all_goals (try have q := ‹gs (cellAt (sC b1) _) = _›)
 all_goals (try have q := ‹¬ gs (cellAt (sC b1) _) = _›)
 all_goals (try rw [gs_sC, gs_sC] at q)
 all_goals (try (repeat' first | with_reducible exact obl0 | (with_reducible refine obl1 ?_ ?_)))
 all_goals (try first | with_reducible exact True.intro | ((first | refine ob_le hj ?_ | refine ob_lei hj ?_ | refine ob_inb hj ?_ | refine ob_pos hj ?_ | refine ob_ne0 hj ?_ | refine ob_eqb hj ?_); (first | rfl | first | omega | (simp only [hj, std]; split <;> omega) | (simp (disch := omega) only [hj, std, cmpI, cmpB, satB, add64, sub64, ite0, pl0, pl2, pl3, sb0, if_true, if_false, eq_self, sC_len] <;> omega) | (simp (disch := omega) [hj, std, cmpI, cmpB, satB, add64, sub64, ite0, pl0, pl2, pl3, sb0, if_true, if_false, eq_self, sC_len] <;> omega))) | ((refine ob_ok hj ?_; simp only [hj, std, ite0]; exact ok_sC (by omega))) | ((refine r1b ?_; refine sameGr_no fun z => ?_; obtain ⟨z1, z2, z3⟩ := z; rw [z2] at q; exact q rfl)) | ((simp (disch := omega) only [hj, std, add64]; first | omega | (refine ⟨by omega, by omega, fun n hn => ?_⟩; by_cases e : (n : Int) < k; exact k3 n e; obtain rfl : n = k.toNat := (by omega); exact q))))
 have hB : b1 = b2 := ext_sAt (by omega) fun n hn => k3 n (by omega)
 clear k3
 refine aw_lpj hj [(2, .keep), (3, .keep), (7, .keep)] [2, 3] (fun (m : Int) => stOf 105 [(2, .one (.ptr 2 0)), (3, .one (.ptr 3 0)), (7, .one (.c (vI m)))] [(2, .box [.st ((C.sl (nS a1) (sC a1))), .st ((C.sl (nS b1) (sC b1))), .st ((C.sl (nR c1) (rC c1)))]), (3, .box [.st ((C.sl (nS a2) (sC a2))), .st ((C.sl (nS b2) (sC b2))), .st ((C.sl (nR c2) (rC c2)))])]) (fun (m : Int) => nR c1 - m.toNat) (fun (m : Int) => 0 ≤ m ∧ m ≤ nR c1 ∧ ∀ n : Nat, (n : Int) < m → rAt c1 n = rAt c2 n) (0) (by generalize @intsOf = x_intsOf; generalize @rlsOf = x_rlsOf; generalize @sameI = x_sameI; generalize @sameL2 = x_sameL2; generalize @strsOf = x_strsOf; generalize @sameS = x_sameS; generalize @rC = x_rC; generalize @nR = x_nR; generalize @sameGr = x_sameGr; generalize @sC = x_sC; generalize @nS = x_nS; cbv) ?_ (fun m hI => ?_)
 ·exact ⟨by omega, by omega, fun n h => by omega⟩
 obtain ⟨m1, m2, m3⟩ := hI
 generalize y_intsOf : @intsOf = x_intsOf at *
 generalize y_rlsOf : @rlsOf = x_rlsOf at *
 generalize y_sameI : @sameI = x_sameI at *
 generalize y_sameL2 : @sameL2 = x_sameL2 at *
 generalize y_strsOf : @strsOf = x_strsOf at *
 generalize y_sameS : @sameS = x_sameS at *
 generalize y_rC : @rC = x_rC at *
 generalize y_nR : @nR = x_nR at *
 generalize y_sameGr : @sameGr = x_sameGr at *
 generalize y_sC : @sC = x_sC at *
 generalize y_nS : @nS = x_nS at *
 (repeat' first | ((first | with_reducible refine tr_cut (fun h => ?_) (fun h => ?_) | refine aw_condj (by cbv) (fun h => ?_) (fun h => ?_)) <;> (try simp (disch := omega) only [hj, std, cmpI, cmpB, satB, Bool.not_eq_true, Bool.not_eq_false, decide_eq_true_eq, decide_eq_false_iff_not, beq_iff_eq, bne_iff_ne, bne_eq_false_iff_eq, beq_eq_false_iff_ne, ne_eq, reduceCtorEq, not_true_eq_false, not_false_eq_true, pl0, if_true, cmpS_eq, cmpS_neq, Bool.not_eq_eq_eq_not, Bool.not_true, Bool.not_false, Bool.not_eq_true', ite0, add64, sub64] at h) <;> (try (exfalso; omega))) | (with_reducible refine tr_alt (fun h => ?_) ?_ <;> (try (exfalso; omega))) | (with_reducible first | refine tr_ob ?_ ?_ | refine tr_done ?_) | (refine aw_dr1 (id := 16) hj tok hm (bookSm x_intsOf x_rlsOf x_sameI x_sameL2 x_strsOf x_sameS) true [(0, false), (1, false), (2, false), (3, false), (4, false), (5, false), (6, false), (7, false), (8, true), (9, true), (10, true), (11, true), (12, true), (13, true), (14, false), (15, false), (16, false), (17, false), (18, false), (19, false), (20, false), (21, false), (22, true), (23, true), (24, true), (25, true), (26, true), (27, true), (28, true)] (by kernel_rfl) (by cbv) ?_) | (refine aw_dr (id := 16) hj tok hm (bookSm x_intsOf x_rlsOf x_sameI x_sameL2 x_strsOf x_sameS) true [(0, false), (1, false), (2, false), (3, false), (4, false), (5, false), (6, false), (7, false), (8, true), (9, true), (10, true), (11, true), (12, true), (13, true), (14, false), (15, false), (16, false), (17, false), (18, false), (19, false), (20, false), (21, false), (22, true), (23, true), (24, true), (25, true), (26, true), (27, true), (28, true)] (by kernel_rfl) (by cbv) ?_) | (refine aw_tr hj tok (bookSm x_intsOf x_rlsOf x_sameI x_sameL2 x_strsOf x_sameS) (by cbv) ?_) | (refine aw_seq fun K hK => ?_) | (refine aw_tr1 hj tok (bookSm x_intsOf x_rlsOf x_sameI x_sameL2 x_strsOf x_sameS) (by cbv) ?_) | (refine aw_skip ?_) | (refine aw_block ?_) | (refine aw_exit ?_) | (refine aw_ret ⟨.inr rfl, ret_okj hj (by cbv) ?_ ?_⟩) | (refine aw_ret ?_) | (with_reducible first | refine th_n ?_ | refine th_r ?_ | refine th_x ?_ | refine blk_n ?_ | refine blk_r ?_ | refine blk_x ?_ | refine blk_y rfl ?_) | (refine ⟨.inr rfl, ret_okj hj (by cbv) ?_ ?_⟩) | (refine ⟨.inl rfl, ret_okj hj (by cbv) ?_ ?_⟩) | (with_reducible refine ⟨_, by cbv, ?_, ?_⟩) | (with_reducible apply_assumption -symm -exfalso only [*]))
 all_goals ((try subst y_intsOf); (try subst y_rlsOf); (try subst y_sameI); (try subst y_sameL2); (try subst y_strsOf); (try subst y_sameS); (try subst y_rC); (try subst y_nR); (try subst y_sameGr); (try subst y_sC); (try subst y_nS))
 all_goals (try have q := ‹gi (cellAt (rC c1) _) = _›)
 all_goals (try have q := ‹¬ gi (cellAt (rC c1) _) = _›)
 all_goals (try rw [gi_rC, gi_rC] at q)
 all_goals (try have p := ‹sameI _ _ = true›)
 all_goals (try have p := ‹sameI _ _ = false›)
 all_goals (try simp only [ite0, gcR, gc_rC, intsOf_iC, sameI_iff, sameI_iff_not] at p)
 all_goals (try (repeat' first | with_reducible exact obl0 | with_reducible refine obl1 ?_ ?_))
 all_goals (try first | with_reducible exact True.intro | ((first | refine ob_pc hj ?_ | refine ob_pcn hj ?_); (try rw [hj]); first | exact c_SameR (a := (rAt c1 m.toNat).2) (b := (rAt c2 m.toNat).2) (gnR _ _) (gcR _ _) (gnR _ _) (gcR _ _) (h1.i _ (rAt_mem c1 m (by omega) (by omega))) (h2.i _ (rAt_mem c2 m (by omega) (by omega)))) | ((first | refine ob_le hj ?_ | refine ob_lei hj ?_ | refine ob_inb hj ?_ | refine ob_pos hj ?_ | refine ob_ne0 hj ?_ | refine ob_eqb hj ?_); (first | rfl | first | omega | (simp only [hj, std]; split <;> omega) | (simp (disch := omega) only [hj, std, cmpI, cmpB, satB, add64, sub64, ite0, pl0, pl2, pl3, sb0, if_true, if_false, eq_self, rC_len] <;> omega) | (simp (disch := omega) [hj, std, cmpI, cmpB, satB, add64, sub64, ite0, pl0, pl2, pl3, sb0, if_true, if_false, eq_self, rC_len] <;> omega))) | ((refine ob_ok hj ?_; simp only [hj, std, ite0]; first | exact ok_rC1 (by omega) | exact ok_rC0 (by omega))) | ((refine r1b ?_; refine sameGr_no fun z => ?_; obtain ⟨z1, z2, z3⟩ := z; first | (rw [z3] at q; exact q rfl) | (rw [z3] at p; exact p rfl))) | ((refine r1b ?_; exact sameGr_iff.2 ⟨hA, hB, ext_rAt (by omega) fun n hn => m3 n (by omega)⟩)) | ((simp (disch := omega) only [hj, std, add64]; first | omega | (refine ⟨by omega, by omega, fun n hn => ?_⟩; by_cases e : (n : Int) < m; exact m3 n e; obtain rfl : n = m.toNat := (by omega); exact Prod.ext q p))))
theorem c_FewG {ns ts : List ByteArray} {rs : List Rl} (h1 : nS ns < 4611686018427387904) (h2 : nS ts < 4611686018427387904) (h3 : nR rs < 2305843009213693952) (h4 : ∀ r ∈ rs, nI r.2 < 4611686018427387904) (h5 : ∀ s ∈ ns, s.size < 4611686018427387904) (h6 : ∀ s ∈ ts, s.size < 4611686018427387904) : pc 17 [.v true [(C.sl (nS ns) (sC ns)), (C.sl (nS ts) (sC ts)), (C.sl (nR rs) (rC rs))]] (ret1 (.st (vI (fewG (strsOf (sC ns)) (strsOf (sC ts)) (rlsOf (rC rs)))))) := by
 rw [strsOf_sC, strsOf_sC, rlsOf_rC]
 exact ⟨enters Try.func17 (by kernel_rfl) (by kernel_rfl), pc_Few ns ts rs h1 h2 h3 h4 h5 h6⟩
theorem smlF {ns ts : List ByteArray} {rs : List Rl} (h : ¬ fewG ns ts rs = 0) : Sml ns ts rs := by
 obtain ⟨h1, h2, h3, h4, h5, h6⟩ := fewG_yes h
 exact ⟨by omega, by omega, by omega, fun r hr => by have := h4 r hr; omega, fun s hs => by have := h5 s hs; omega, fun s hs => by have := h6 s hs; omega⟩
theorem c_V14 {ns ts : List ByteArray} {rs : List Rl} (hS : Sml ns ts rs) : pc 19 [.v true [(C.sl (nS ns) (sC ns)), (C.sl (nS ts) (sC ts)), (C.sl (nR rs) (rC rs))]] (ret1 (.st (vB (validG (strsOf (sC ns)) (strsOf (sC ts)) (rlsOf (rC rs)))))) := by
 rw [strsOf_sC, strsOf_sC, rlsOf_rC]
 exact ⟨enters Try.func19 (by kernel_rfl) (by kernel_rfl), pc_Valid14 _ _ _ hS⟩
theorem c_VG {ns ts : List ByteArray} {rs : List Rl} (hS : Sml ns ts rs) : pc 15 [.v true [(C.sl (nS ns) (sC ns)), (C.sl (nS ts) (sC ts)), (C.sl (nR rs) (rC rs))]] (ret1 (.st (vB (validG (strsOf (sC ns)) (strsOf (sC ts)) (rlsOf (rC rs)))))) := by
 rw [strsOf_sC, strsOf_sC, rlsOf_rC]
 exact ⟨enters Try.func15 (by kernel_rfl) (by kernel_rfl), pc_ValidG _ _ _ hS⟩
theorem c_Sm14 {a1 b1 : List ByteArray} {c1 : List Rl} {a2 b2 : List ByteArray} {c2 : List Rl} (h1 : GrL a1 b1 c1) (h2 : GrL a2 b2 c2) : pc 21 [.v true [(C.sl (nS a1) (sC a1)), (C.sl (nS b1) (sC b1)), (C.sl (nR c1) (rC c1))], .v true [(C.sl (nS a2) (sC a2)), (C.sl (nS b2) (sC b2)), (C.sl (nR c2) (rC c2))]] (ret1 (.st (vB (sameGr (strsOf (sC a1)) (strsOf (sC b1)) (rlsOf (rC c1)) (strsOf (sC a2)) (strsOf (sC b2)) (rlsOf (rC c2)))))) := by
 simp only [strsOf_sC, rlsOf_rC]
 exact ⟨enters Try.func21 (by kernel_rfl) (by kernel_rfl), pc_Same14 _ _ _ _ _ _ h1 h2⟩
end Go.Proofs.Ytgimfjmigoibgaa.A
/- Grammars as lines, by the program. -/
set_option linter.unusedSimpArgs false
set_option linter.unusedVariables false
set_option maxRecDepth 100000
set_option maxHeartbeats 4000000
namespace Go.Proofs.Ytgimfjmigoibgaa.A
open Go
def al3C (l : List (List It)) : List C := l.map fun a => .sl a.length (itC a)
def ln3C (l : List Ln) : List C := l.flatMap fun x => [vS x.1, .sl x.2.length (al3C x.2)]
theorem al3C_len (l : List (List It)) : (al3C l).length = l.length := by unfold al3C; simp
theorem ln3C_len (l : List Ln) : (ln3C l).length = l.length * 2 := by unfold ln3C; induction l with | nil => rfl | cons x l ih => simp at ih ⊢; omega
theorem al3C_snoc (l : List (List It)) (a : List It) {n : Nat} {cs : List C} (hn : n = a.length) (hc : cs = itC a) : al3C l ++ [.sl n cs] = al3C (l ++ [a]) := by subst hn; subst hc; simp [al3C]
theorem ln3C_snoc (l : List Ln) (x : Ln) {n : Nat} {cs : List C} (hn : n = x.2.length) (hc : cs = al3C x.2) : ln3C l ++ [vS x.1, .sl n cs] = ln3C (l ++ [x]) := by subst hn; subst hc; simp [ln3C]
theorem at_al3 {A : List (List It)} {i : Nat} (h : i < A.length) : cellAt (al3C A) i = .sl (aAt A i).length (itC (aAt A i)) := by
 unfold al3C; rw [map_at, List.getElem?_eq_getElem h, aAt, List.getD_eq_getElem?_getD, List.getElem?_eq_getElem h]; rfl
theorem at_ln3 {L : List Ln} {i : Nat} (h : i < L.length) : cellAt (ln3C L) (i * 2) = vS (lAt L i).1 ∧ cellAt (ln3C L) (i * 2 + 1) = .sl (lAt L i).2.length (al3C (lAt L i).2) := by
 have := pair_at (fun x : Ln => vS x.1) (fun x => .sl x.2.length (al3C x.2)) L i h
 unfold ln3C; simpa only [lAt, List.getD_eq_getElem?_getD, List.getElem?_eq_getElem h, Option.getD_some] using this
theorem AlRep.of3 (A : List (List It)) : AlRep A (al3C A) := ⟨al3C_len A, fun k h => by rw [at_al3 h]; exact ⟨.inr ⟨_, _, rfl⟩, rfl, rfl⟩⟩
theorem LnRep.of3 (L : List Ln) : LnRep L (ln3C L) := ⟨ln3C_len L, fun i h => by
 obtain ⟨h1, h2⟩ := at_ln3 h
 refine ⟨h1, ?_, ?_, ?_⟩
 ·rw [h2]; exact .inr ⟨_, _, rfl⟩
 ·rw [h2]; rfl
 ·rw [h2]; exact AlRep.of3 _⟩
/-! ### a symbol as an item -/
def imS (ns ts : List ByteArray) (s : Int) : ByteArray := (itG ns ts s).2
theorem itG_eq (ns ts : List ByteArray) (s : Int) : itG ns ts s = (tm14 s, imS ns ts s) := by
 unfold imS itG tm14; by_cases h : s < 0 <;> simp [h]
def bookIt (x_tm14 : Int → Bool) : Book := fun f xs => match f, xs with
 | 31, [.v false [.val (.int .i64 s)]] => some (ret1 (.st (vB (x_tm14 s))))
 | _, _ => none
theorem pc_itemG (ns ts : List ByteArray) (rs : List Rl) (s : Int) (h : inB ns.length ts.length s) (hn : nS ns ≤ 1000000) (ht : nS ts ≤ 1000000) :
  PC Try.prog T 47 [.v true [(C.sl (nS ns) (sC ns)), (C.sl (nS ts) (sC ts)), (C.sl (nR rs) (rC rs))], .v false [vI s]] ⟨false, [(true, [.st (vB (tm14 s)), .st (vS (imS ns ts s))])]⟩ [] := by
 obtain ⟨h1, h2⟩ := h
 have nn := nS_eq ns; have nt := nS_eq ts
 have e1 : s < 0 → gs (cellAt (sC ts) (arithI .sub .i64 (-1) s).toNat) = imS ns ts s := fun h => by rw [sub64 (by omega) (by omega), gs_sC]; unfold imS itG; rw [if_pos h]
 have e2 : ¬ s < 0 → gs (cellAt (sC ns) s.toNat) = imS ns ts s := fun h => by rw [gs_sC]; unfold imS itG; rw [if_neg h]
 have e3 : s < 0 → arithI .sub .i64 (-1) s = -1 - s := fun h => sub64 (by omega) (by omega)
 have t1 : tm14 s = true ↔ s < 0 := by unfold tm14; rw [decide_eq_true_eq]
 refine pc_of tok Try.func47 rfl (by rfl) ?_
 obtain ⟨j, hj⟩ : ∃ j : J, j = std Try.prog T := ⟨_, rfl⟩
 have hm : Try.prog.follows .mixedOrders = true := by kernel_rfl
 generalize y_tm14 : @tm14 = x_tm14 at *
 generalize y_imS : @imS = x_imS at *
 generalize y_rC : @rC = x_rC at *
 generalize y_nR : @nR = x_nR at *
 generalize y_sC : @sC = x_sC at *
 generalize y_nS : @nS = x_nS at *
 (repeat' first | ((first | with_reducible refine tr_cut (fun h => ?_) (fun h => ?_) | refine aw_condj (by cbv) (fun h => ?_) (fun h => ?_)) <;> (try simp (disch := omega) only [hj, std, cmpI, cmpB, satB, Bool.not_eq_true, Bool.not_eq_false, decide_eq_true_eq, decide_eq_false_iff_not, beq_iff_eq, bne_iff_ne, bne_eq_false_iff_eq, beq_eq_false_iff_ne, ne_eq, reduceCtorEq, not_true_eq_false, not_false_eq_true, pl0, if_true, cmpS_eq, cmpS_neq, Bool.not_eq_eq_eq_not, Bool.not_true, Bool.not_false, Bool.not_eq_true', add64, sub64] at h) <;> (try (exfalso; omega))) | (with_reducible refine tr_alt (fun h => ?_) ?_ <;> (try (exfalso; omega))) | (with_reducible first | refine tr_ob ?_ ?_ | refine tr_done ?_) | (refine aw_tr hj tok (bookIt x_tm14) (by cbv) ?_) | (refine aw_seq fun K hK => ?_) | (refine aw_tr1 hj tok (bookIt x_tm14) (by cbv) ?_) | (refine aw_skip ?_) | (refine aw_block ?_) | (refine aw_exit ?_) | (refine aw_ret ⟨.inr rfl, ret_okj hj (by cbv) ?_ ?_⟩) | (refine aw_ret ?_) | (with_reducible first | refine th_n ?_ | refine th_r ?_ | refine th_x ?_ | refine blk_n ?_ | refine blk_r ?_ | refine blk_x ?_ | refine blk_y rfl ?_) | (refine ⟨.inr rfl, ret_okj hj (by cbv) ?_ ?_⟩) | (refine ⟨.inl rfl, ret_okj hj (by cbv) ?_ ?_⟩) | (with_reducible apply_assumption -symm -exfalso only [*]))
 all_goals ((try subst y_tm14); (try subst y_imS); (try subst y_rC); (try subst y_nR); (try subst y_sC); (try subst y_nS))
 all_goals (try (have q : s < 0 := t1.1 (by assumption)))
 all_goals (try (have q : ¬ s < 0 := fun q => by have := t1.2 q; have k := ‹tm14 s = false›; rw [k] at this; cases this))
 all_goals (try (repeat' first | with_reducible exact obl0 | with_reducible refine obl1 ?_ ?_))
 all_goals (try first | with_reducible exact True.intro | ((first | refine ob_pc hj ?_ | refine ob_pcn hj ?_); (try rw [hj]); first | exact c_is14 _) | ((first | refine ob_le hj ?_ | refine ob_lei hj ?_ | refine ob_inb hj ?_ | refine ob_pos hj ?_ | refine ob_ne0 hj ?_ | refine ob_eqb hj ?_); (first | rfl | first | omega | (simp only [hj, std]; split <;> omega) | (simp (disch := omega) only [hj, std, cmpI, cmpB, satB, add64, sub64, ite0, pl0, pl2, pl3, sb0, if_true, if_false, eq_self, sC_len] <;> omega) | (simp (disch := omega) [hj, std, cmpI, cmpB, satB, add64, sub64, ite0, pl0, pl2, pl3, sb0, if_true, if_false, eq_self, sC_len] <;> omega))) | ((refine ob_ok hj ?_; simp only [hj, std, ite0]; first | (rw [e3 q]; exact ok_sC (by omega)) | exact ok_sC (by omega))) | ((have k := ‹tm14 s = true›; rw [k, ← e1 q, hj]; rfl)) | ((have k := ‹tm14 s = false›; rw [k, ← e2 q, hj]; rfl)))
/-! ### the places of a nonterminal's rules, and these rules -/
theorem ofGo_map (left : Int) : ∀ (l pre : List Rl), (ofGo left l pre.length).map (fun p => rAt (pre ++ l) p.toNat) = ofL1 l left ∧ ∀ p ∈ ofGo left l pre.length, 0 ≤ p ∧ p < ((pre ++ l).length : Int) := by
 intro l
 induction l with
 | nil => intro pre; exact ⟨rfl, fun p h => by cases h⟩
 | cons r l ih =>
  intro pre
  obtain ⟨h1, h2⟩ := ih (pre ++ [r])
  rw [List.append_assoc, List.singleton_append, List.length_append, List.length_singleton] at h1
  rw [List.append_assoc, List.singleton_append, show (pre ++ [r]).length = pre.length + 1 by simp] at h2
  unfold ofGo
  have e : ((pre.length + 1 : Nat) : Int) = (pre.length : Int) + 1 := by omega
  rw [e] at h1 h2
  by_cases hr : r.1 = left
  ·rw [if_pos hr, List.map_cons, h1]
   refine ⟨?_, fun p hp => ?_⟩
   ·unfold ofL1
    rw [List.filter_cons_of_pos (by simpa using hr)]
    congr 1
    rw [rAt, List.getD_eq_getElem?_getD, Int.toNat_natCast, List.getElem?_append_right (Nat.le_refl _)]
    simp
   ·rcases List.mem_cons.1 hp with rfl | hp
    ·rw [List.length_append, List.length_cons]; omega
    ·exact h2 p hp
  ·rw [if_neg hr, h1]
   refine ⟨?_, h2⟩
   unfold ofL1
   rw [List.filter_cons_of_neg (by simpa using hr)]
theorem ofR_map (rs : List Rl) (i : Int) : (ofR rs i).map (fun p => rAt rs p.toNat) = ofL1 rs i ∧ ∀ p ∈ ofR rs i, 0 ≤ p ∧ p < (rs.length : Int) := ofGo_map i rs []
def altsG (ns ts : List ByteArray) (rs : List Rl) (i : Nat) : List (List It) := (ofL1 rs i).map (altG ns ts)
theorem altsG_len (ns ts : List ByteArray) (rs : List Rl) (i : Nat) : (altsG ns ts rs i).length = (ofR rs i).length := by
 unfold altsG; rw [List.length_map, ← (ofR_map rs i).1, List.length_map]
theorem altsG_at {ns ts : List ByteArray} {rs : List Rl} {i k : Nat} (h : k < (ofR rs i).length) : aAt (altsG ns ts rs i) k = altG ns ts (rAt rs (iAt (ofR rs i) k).toNat) := by
 have h2 : k < (ofL1 rs i).length := by rw [← (ofR_map rs i).1, List.length_map]; exact h
 have e : (ofL1 rs i)[k] = rAt rs (iAt (ofR rs i) k).toNat := by
  have : (ofL1 rs i)[k]? = ((ofR rs i).map (fun p => rAt rs p.toNat))[k]? := by rw [(ofR_map rs i).1]
  rw [List.getElem?_eq_getElem h2, List.getElem?_map, List.getElem?_eq_getElem h] at this
  rw [Option.some.inj this, iAt, List.getD_eq_getElem?_getD, List.getElem?_eq_getElem h]; rfl
 unfold altsG
 rw [aAt, List.getD_eq_getElem?_getD, List.getElem?_map, List.getElem?_eq_getElem h2, e]; rfl
theorem take_aAt {A : List (List It)} {k : Nat} (h : k < A.length) : A.take (k + 1) = A.take k ++ [aAt A k] := by
 rw [List.take_succ_eq_append_getElem h, aAt, List.getD_eq_getElem?_getD, List.getElem?_eq_getElem h]; rfl
theorem take_lAt {L : List Ln} {k : Nat} (h : k < L.length) : L.take (k + 1) = L.take k ++ [lAt L k] := by
 rw [List.take_succ_eq_append_getElem h, lAt, List.getD_eq_getElem?_getD, List.getElem?_eq_getElem h]; rfl
theorem take_tAt {a : List It} {k : Nat} (h : k < a.length) : a.take (k + 1) = a.take k ++ [tAt a k] := by
 rw [List.take_succ_eq_append_getElem h, tAt, List.getD_eq_getElem?_getD, List.getElem?_eq_getElem h]; rfl
theorem altG_at {ns ts : List ByteArray} {r : Rl} {k : Nat} (h : k < r.2.length) : tAt (altG ns ts r) k = (tm14 (iAt r.2 k), imS ns ts (iAt r.2 k)) := by
 rw [← itG_eq]; unfold altG
 rw [tAt, List.getD_eq_getElem?_getD, List.getElem?_map, List.getElem?_eq_getElem h, iAt, List.getD_eq_getElem?_getD, List.getElem?_eq_getElem h]; rfl
def lsL (ns ts : List ByteArray) (rs : List Rl) : List Ln := if validG ns ts rs = true then lnG ns ts rs else []
def lsN (ns ts : List ByteArray) (rs : List Rl) : Nat := (lsL ns ts rs).length
def lsC (ns ts : List ByteArray) (rs : List Rl) : List C := ln3C (lsL ns ts rs)
theorem ls_no {ns ts : List ByteArray} {rs : List Rl} (h : validG ns ts rs = false) : lsN ns ts rs = 0 ∧ lsC ns ts rs = [] := by
 unfold lsN lsC lsL; rw [if_neg (by rw [h]; decide)]; exact ⟨rfl, rfl⟩
theorem ls_yes {ns ts : List ByteArray} {rs : List Rl} (h : validG ns ts rs = true) : lsN ns ts rs = ns.length ∧ lsC ns ts rs = ln3C (lnG ns ts rs) := by
 unfold lsN lsC lsL; rw [if_pos h, lnG_len]; exact ⟨rfl, rfl⟩
theorem fit_of {ns ts : List ByteArray} {rs : List Rl} (hv : validG ns ts rs = true) : ∀ r ∈ rs, 0 ≤ r.1 ∧ r.1 < ns.length ∧ r.2.length ≤ 64 ∧ ∀ x ∈ r.2, inB ns.length ts.length x := fun r hr => by
 have := (validG_iff.1 hv).2.2.2.1 r hr
 unfold fitR at this
 rw [Bool.and_eq_true, decide_eq_true_eq, Bool.not_eq_true', nI_eq, nS_eq] at this
 have h2 := this.2
 rw [nS_eq] at h2
 exact ⟨this.1.1, this.1.2.1, this.1.2.2, fit_inB h2⟩
abbrev itTyG : TypeId := 53
def bookLn (x_imS : List ByteArray → List ByteArray → Int → ByteArray) (x_tm14 : Int → Bool) (x_rlsOf : List C → List Rl) (x_ofR : List Rl → Int → List Int) (x_validG : List ByteArray → List ByteArray → List Rl → Bool) (x_iC : List Int → List C) (x_nI : List Int → Nat) (x_strsOf : List C → List ByteArray) : Book := fun f xs => match f, xs with
 | 15, [.v true [.sl _ a, .sl _ b, .sl _ c]] => some (ret1 (.st (vB (x_validG (x_strsOf a) (x_strsOf b) (x_rlsOf c)))))
 | 18, [.v true [.sl _ _, .sl _ _, .sl _ cs], .v false [.val (.int .i64 a)]] => some (ret1 (.own intT (x_nI (x_ofR (x_rlsOf cs) a)) (x_iC (x_ofR (x_rlsOf cs) a))))
 | 47, [.v true [.sl _ a, .sl _ b, .sl _ _], .v false [.val (.int .i64 s)]] => some ((⟨false, [(true, [.st (vB (x_tm14 s)), .st (vS (x_imS (x_strsOf a) (x_strsOf b) s))])]⟩ : RV), [])
 | _, _ => none
theorem pc_Lines (ns ts : List ByteArray) (rs : List Rl) (hS : Sml ns ts rs) : PC Try.prog T 22 [.v true [(C.sl (nS ns) (sC ns)), (C.sl (nS ts) (sC ts)), (C.sl (nR rs) (rC rs))]] (ret1 (.st (.sl (lsN ns ts rs) (lsC ns ts rs)))) [] := by
 have ha := hS.n; have hb := hS.t; have hc := hS.r
 have nn := nS_eq ns; have nt := nS_eq ts; have nr := nR_eq rs
 have x1 := strsOf_sC ns
 have x2 := strsOf_sC ts
 have x3 := rlsOf_rC rs
 have q1 := c_VG hS
 have q2 := fun a : Int => c_OfG (ns := ns) (ts := ts) (a := a) hc
 have q3 : ∀ s : Int, inB ns.length ts.length s → pc 47 [.v true [(C.sl (nS ns) (sC ns)), (C.sl (nS ts) (sC ts)), (C.sl (nR rs) (rC rs))], .v false [vI s]] ⟨false, [(true, [.st (vB (tm14 s)), .st (vS (imS (strsOf (sC ns)) (strsOf (sC ts)) s))])]⟩ := fun s h => by
  rw [x1, x2]
  exact ⟨enters Try.func47 (by kernel_rfl) (by kernel_rfl), pc_itemG ns ts rs s h ha hb⟩
 have hsn : ∀ k, gs (cellAt (sC ns) k) = sAt ns k := fun k => gs_sC ns k
 have hso : ∀ k, k < ns.length → okK .str (cellAt (sC ns) k) := fun k h => ok_sC h
 have hsl : (sC ns).length = nS ns := sC_len ns
 have hrl : (rC rs).length = nR rs * 2 := rC_len rs
 have hr1 : ∀ k, gn (cellAt (rC rs) (k * 2 + 1)) = nI (rAt rs k).2 := fun k => gn_rC rs k
 have hr2 : ∀ k, gc (cellAt (rC rs) (k * 2 + 1)) = iC (rAt rs k).2 := fun k => gc_rC rs k
 have hro : ∀ k, k < rs.length → okK .sl (cellAt (rC rs) (k * 2 + 1)) := fun k h => ok_rC1 h
 generalize hA1 : nS ns = sn at *
 generalize hA2 : sC ns = sc at *
 generalize hA3 : nS ts = tn at *
 generalize hA4 : sC ts = tc at *
 generalize hA5 : nR rs = rn at *
 generalize hA6 : rC rs = rc at *
 refine pc_of tok Try.func22 rfl (by rfl) ?_
 obtain ⟨j, hj⟩ : ∃ j : J, j = std Try.prog T := ⟨_, rfl⟩
 have hm : Try.prog.follows .mixedOrders = true := by kernel_rfl
 generalize y_imS : @imS = x_imS at *
 generalize y_tm14 : @tm14 = x_tm14 at *
 generalize y_rlsOf : @rlsOf = x_rlsOf at *
 generalize y_ofR : @ofR = x_ofR at *
 generalize y_validG : @validG = x_validG at *
 generalize y_iC : @iC = x_iC at *
 generalize y_nI : @nI = x_nI at *
 generalize y_strsOf : @strsOf = x_strsOf at *
 generalize y_al3C : @al3C = x_al3C at *
 generalize y_ln3C : @ln3C = x_ln3C at *
 generalize y_lsN : @lsN = x_lsN at *
 generalize y_lsC : @lsC = x_lsC at *
 generalize y_rC : @rC = x_rC at *
 generalize y_nR : @nR = x_nR at *
 generalize y_sC : @sC = x_sC at *
 generalize y_nS : @nS = x_nS at *
 generalize y_itC : @itC = x_itC at *
 (repeat' first | (refine aw_retz hj [(2, .fz)] (by cbv) ?_) | ((first | with_reducible refine tr_cut (fun h => ?_) (fun h => ?_) | refine aw_condj (by cbv) (fun h => ?_) (fun h => ?_)) <;> (try simp (disch := omega) only [hj, std, cmpI, cmpB, satB, Bool.not_eq_true, Bool.not_eq_false, decide_eq_true_eq, decide_eq_false_iff_not, beq_iff_eq, bne_iff_ne, bne_eq_false_iff_eq, beq_eq_false_iff_ne, ne_eq, reduceCtorEq, not_true_eq_false, not_false_eq_true, pl0, if_true, cmpS_eq, cmpS_neq, Bool.not_eq_eq_eq_not, Bool.not_true, Bool.not_false, Bool.not_eq_true', x1, x2, x3, add64, sub64] at h) <;> (try (exfalso; omega))) | (with_reducible refine tr_alt (fun h => ?_) ?_ <;> (try (exfalso; omega))) | (with_reducible first | refine tr_ob ?_ ?_ | refine tr_done ?_) | (refine aw_tr hj tok (bookLn x_imS x_tm14 x_rlsOf x_ofR x_validG x_iC x_nI x_strsOf) (by cbv) ?_) | (refine aw_seq fun K hK => ?_) | (refine aw_tr1 hj tok (bookLn x_imS x_tm14 x_rlsOf x_ofR x_validG x_iC x_nI x_strsOf) (by cbv) ?_) | (refine aw_skip ?_) | (refine aw_block ?_) | (refine aw_exit ?_) | (refine aw_ret ⟨.inr rfl, ret_okj hj (by cbv) ?_ ?_⟩) | (refine aw_ret ?_) | (with_reducible first | refine th_n ?_ | refine th_r ?_ | refine th_x ?_ | refine blk_n ?_ | refine blk_r ?_ | refine blk_x ?_ | refine blk_y rfl ?_) | (refine ⟨.inr rfl, ret_okj hj (by cbv) ?_ ?_⟩) | (refine ⟨.inl rfl, ret_okj hj (by cbv) ?_ ?_⟩) | (with_reducible first | refine ⟨(_, _, _, _, _, _, _), by cbv, ?_, ?_⟩ | refine ⟨(_, _, _, _, _, _), by cbv, ?_, ?_⟩ | refine ⟨(_, _, _), by cbv, ?_, ?_⟩ | refine ⟨_, by cbv, ?_, ?_⟩) | (with_reducible apply_assumption -symm -exfalso only [*]))
 all_goals ((try subst y_imS); (try subst y_tm14); (try subst y_rlsOf); (try subst y_ofR); (try subst y_validG); (try subst y_iC); (try subst y_nI); (try subst y_strsOf); (try subst y_al3C); (try subst y_ln3C); (try subst y_lsN); (try subst y_lsC); (try subst y_rC); (try subst y_nR); (try subst y_sC); (try subst y_nS); (try subst y_itC))
 all_goals (try (repeat' first | with_reducible exact obl0 | (with_reducible refine obl1 ?_ ?_)))
 all_goals (try first | with_reducible exact True.intro | ((first | refine ob_pc hj ?_ | refine ob_pcn hj ?_); (try rw [hj]); first | exact q1) | ((first | refine ob_le hj ?_ | refine ob_lei hj ?_ | refine ob_inb hj ?_ | refine ob_pos hj ?_ | refine ob_ne0 hj ?_ | refine ob_eqb hj ?_); (first | rfl | first | omega | (simp only [hj, std]; split <;> omega) | (simp (disch := omega) only [hj, std, cmpI, cmpB, satB, add64, sub64, ite0, pl0, pl2, pl3, sb0, if_true, if_false, eq_self] <;> omega) | (simp (disch := omega) [hj, std, cmpI, cmpB, satB, add64, sub64, ite0, pl0, pl2, pl3, sb0, if_true, if_false, eq_self] <;> omega))) | ((obtain ⟨k1, k2⟩ := ls_no (by assumption : validG ns ts rs = false); rw [k1, k2]; rfl)))
 have hv : validG ns ts rs = true := by assumption
 have hfit := fit_of hv
 obtain ⟨w1, w2⟩ := ls_yes hv
 have h256 := (validG_iff.1 hv).1
 rw [hA1, hA3, hA5] at h256
 refine aw_lpj hj [(1, .keep), (3, .tree shL), (16, .keep), (17, .keep), (18, .keep)] [1] (fun (⟨i, m, cs⟩ : Int × Nat × (List C)) => stOf 64 [(1, .one (.ptr 1 0)), (3, .one (.tv 3 0 [])), (16, .one (.c (.sl sn sc))), (17, .one (.c (vI (j.ofNat sn)))), (18, .one (.c (vI i)))] [(3, .loose [.tree shL ((.sl m cs)) none]), (1, .box [.st (.sl sn sc), .st (.sl tn tc), .st (.sl rn rc)])]) (fun (⟨i, m, cs⟩ : Int × Nat × (List C)) => sn - i.toNat) (fun (⟨i, m, cs⟩ : Int × Nat × (List C)) => 0 ≤ i ∧ i ≤ sn ∧ m = i.toNat ∧ cs = ln3C ((lnG ns ts rs).take i.toNat)) ((0, 0, [])) (by generalize @imS = x_imS; generalize @tm14 = x_tm14; generalize @rlsOf = x_rlsOf; generalize @ofR = x_ofR; generalize @validG = x_validG; generalize @iC = x_iC; generalize @nI = x_nI; generalize @strsOf = x_strsOf; generalize @al3C = x_al3C; generalize @ln3C = x_ln3C; generalize @lsN = x_lsN; generalize @lsC = x_lsC; generalize @rC = x_rC; generalize @nR = x_nR; generalize @sC = x_sC; generalize @nS = x_nS; generalize @itC = x_itC; cbv) ?_ (fun ⟨i, m, cs⟩ hI => ?_)
 ·exact ⟨by omega, by omega, rfl, rfl⟩
 obtain ⟨i1, i2, hm1, hcs⟩ := hI
 have hcl : cs.length = i.toNat * 2 := by rw [hcs, ln3C_len, List.length_take, lnG_len]; omega
 rcases Decidable.em (i < (sn : Int)) with hi | hi
 ·have hL : lAt (lnG ns ts rs) i.toNat = (sAt ns i.toNat, altsG ns ts rs i.toNat) := lAt_lnG (by omega)
  have hstep : ln3C ((lnG ns ts rs).take (i.toNat + 1)) = cs ++ [vS (sAt ns i.toNat), .sl (altsG ns ts rs i.toNat).length (al3C (altsG ns ts rs i.toNat))] := by
   rw [take_lAt (by rw [lnG_len]; omega), hL, hcs, ← ln3C_snoc _ _ rfl rfl]
  have hO : ∀ k : Nat, k < (ofR rs i).length → aAt (altsG ns ts rs i.toNat) k = altG ns ts (rAt rs (iAt (ofR rs i) k).toNat) := fun k h => by
   have e : ((i.toNat : Nat) : Int) = i := by omega
   have := altsG_at (ns := ns) (ts := ts) (rs := rs) (i := i.toNat) (k := k) (by rw [e]; exact h)
   rwa [e] at this
  have hOl : (altsG ns ts rs i.toNat).length = (ofR rs i).length := by
   have := altsG_len ns ts rs i.toNat
   rwa [show ((i.toNat : Nat) : Int) = i by omega] at this
  have hOb := (ofR_map rs i).2
  have hOle : (ofR rs i).length ≤ rs.length := by rw [← List.length_map (f := fun p => rAt rs p.toNat), (ofR_map rs i).1]; exact List.length_filter_le _ _
  generalize hAA : altsG ns ts rs i.toNat = A at *
  generalize y_imS : @imS = x_imS at *
  generalize y_tm14 : @tm14 = x_tm14 at *
  generalize y_rlsOf : @rlsOf = x_rlsOf at *
  generalize y_ofR : @ofR = x_ofR at *
  generalize y_validG : @validG = x_validG at *
  generalize y_iC : @iC = x_iC at *
  generalize y_nI : @nI = x_nI at *
  generalize y_strsOf : @strsOf = x_strsOf at *
  generalize y_al3C : @al3C = x_al3C at *
  generalize y_ln3C : @ln3C = x_ln3C at *
  generalize y_lsN : @lsN = x_lsN at *
  generalize y_lsC : @lsC = x_lsC at *
  generalize y_rC : @rC = x_rC at *
  generalize y_nR : @nR = x_nR at *
  generalize y_sC : @sC = x_sC at *
  generalize y_nS : @nS = x_nS at *
  generalize y_itC : @itC = x_itC at *
  (repeat' first | (refine aw_retz hj [(2, .fz)] (by cbv) ?_) | ((first | with_reducible refine tr_cut (fun h => ?_) (fun h => ?_) | refine aw_condj (by cbv) (fun h => ?_) (fun h => ?_)) <;> (try simp (disch := omega) only [hj, std, cmpI, cmpB, satB, Bool.not_eq_true, Bool.not_eq_false, decide_eq_true_eq, decide_eq_false_iff_not, beq_iff_eq, bne_iff_ne, bne_eq_false_iff_eq, beq_eq_false_iff_ne, ne_eq, reduceCtorEq, not_true_eq_false, not_false_eq_true, pl0, if_true, cmpS_eq, cmpS_neq, Bool.not_eq_eq_eq_not, Bool.not_true, Bool.not_false, Bool.not_eq_true', x1, x2, x3, add64, sub64] at h) <;> (try (exfalso; omega))) | (with_reducible refine tr_alt (fun h => ?_) ?_ <;> (try (exfalso; omega))) | (with_reducible first | refine tr_ob ?_ ?_ | refine tr_done ?_) | (refine aw_tr hj tok (bookLn x_imS x_tm14 x_rlsOf x_ofR x_validG x_iC x_nI x_strsOf) (by cbv) ?_) | (refine aw_seq fun K hK => ?_) | (refine aw_tr1 hj tok (bookLn x_imS x_tm14 x_rlsOf x_ofR x_validG x_iC x_nI x_strsOf) (by cbv) ?_) | (refine aw_skip ?_) | (refine aw_block ?_) | (refine aw_exit ?_) | (refine aw_ret ⟨.inr rfl, ret_okj hj (by cbv) ?_ ?_⟩) | (refine aw_ret ?_) | (with_reducible first | refine th_n ?_ | refine th_r ?_ | refine th_x ?_ | refine blk_n ?_ | refine blk_r ?_ | refine blk_x ?_ | refine blk_y rfl ?_) | (refine ⟨.inr rfl, ret_okj hj (by cbv) ?_ ?_⟩) | (refine ⟨.inl rfl, ret_okj hj (by cbv) ?_ ?_⟩) | (with_reducible first | refine ⟨(_, _, _, _, _, _, _), by cbv, ?_, ?_⟩ | refine ⟨(_, _, _, _, _, _), by cbv, ?_, ?_⟩ | refine ⟨(_, _, _), by cbv, ?_, ?_⟩ | refine ⟨_, by cbv, ?_, ?_⟩) | (with_reducible apply_assumption -symm -exfalso only [*]))
  all_goals ((try subst y_imS); (try subst y_tm14); (try subst y_rlsOf); (try subst y_ofR); (try subst y_validG); (try subst y_iC); (try subst y_nI); (try subst y_strsOf); (try subst y_al3C); (try subst y_ln3C); (try subst y_lsN); (try subst y_lsC); (try subst y_rC); (try subst y_nR); (try subst y_sC); (try subst y_nS); (try subst y_itC))
  all_goals (try (repeat' first | with_reducible exact obl0 | (with_reducible refine obl1 ?_ ?_)))
  all_goals (try first | with_reducible exact True.intro | ((first | refine ob_pc hj ?_ | refine ob_pcn hj ?_); (try rw [hj]); first | exact q2 _) | ((first | refine ob_le hj ?_ | refine ob_lei hj ?_ | refine ob_inb hj ?_ | refine ob_pos hj ?_ | refine ob_ne0 hj ?_ | refine ob_eqb hj ?_); (first | rfl | first | omega | (simp only [hj, std]; split <;> omega) | (simp (disch := omega) only [hj, std, cmpI, cmpB, satB, add64, sub64, ite0, pl0, pl2, pl3, sb0, if_true, if_false, eq_self, hsl] <;> omega) | (simp (disch := omega) [hj, std, cmpI, cmpB, satB, add64, sub64, ite0, pl0, pl2, pl3, sb0, if_true, if_false, eq_self, hsl] <;> omega))) | ((refine ob_ok hj ?_; simp only [hj, std]; exact hso _ (by omega))) | ((refine ob_vals hj ?_; exact iC_vals _)))
  refine aw_lpj hj [(1, .keep), (3, .tree shL), (6, .keep), (16, .keep), (17, .keep), (18, .keep), (27, .own intT), (28, .keep), (29, .keep), (6, .btree 1 shA)] [1, 6] (fun (⟨k, am, ac, on, oc, ol, nm⟩ : Int × Nat × (List C) × Nat × (List C) × Int × ByteArray) => stOf 64 [(1, .one (.ptr 1 0)), (3, .one (.tv 3 0 [])), (6, .one (.ptr 6 0)), (16, .one (.c (.sl sn sc))), (17, .one (.c (vI (j.ofNat sn)))), (18, .one (.c (vI i))), (27, .one (.view 27 0)), (28, .one (.c (vI ol))), (29, .one (.c (vI k)))] [(3, .loose [.tree shL ((.sl m cs)) none]), (27, .loose [.own intT on oc]), (1, .box [.st (.sl sn sc), .st (.sl tn tc), .st (.sl rn rc)]), (6, .box [.st (vS nm), .tree shA (.sl am ac) none])]) (fun (⟨k, am, ac, on, oc, ol, nm⟩ : Int × Nat × (List C) × Nat × (List C) × Int × ByteArray) => on - k.toNat) (fun (⟨k, am, ac, on, oc, ol, nm⟩ : Int × Nat × (List C) × Nat × (List C) × Int × ByteArray) => 0 ≤ k ∧ k ≤ on ∧ on = nI (ofR rs i) ∧ oc = iC (ofR rs i) ∧ ol = on ∧ nm = sAt ns i.toNat ∧ am = k.toNat ∧ ac = al3C (A.take k.toNat)) ((0, 0, [], nI (ofR (rlsOf rc) i), iC (ofR (rlsOf rc) i), j.ofNat (nI (ofR (rlsOf rc) i)), _)) (by generalize @imS = x_imS; generalize @tm14 = x_tm14; generalize @rlsOf = x_rlsOf; generalize @ofR = x_ofR; generalize @validG = x_validG; generalize @iC = x_iC; generalize @nI = x_nI; generalize @strsOf = x_strsOf; generalize @al3C = x_al3C; generalize @ln3C = x_ln3C; generalize @lsN = x_lsN; generalize @lsC = x_lsC; generalize @rC = x_rC; generalize @nR = x_nR; generalize @sC = x_sC; generalize @nS = x_nS; generalize @itC = x_itC; cbv) ?_ (fun ⟨k, am, ac, on, oc, ol, nm⟩ hI => ?_)
  ·simp only [hj, std, x3]
   exact ⟨by omega, by omega, trivial, trivial, by first | trivial | rfl, hsn _, rfl, rfl⟩
  obtain ⟨k1, k2, hon, hoc, hol, hnm, ham, hac⟩ := hI
  have hon2 : on = (ofR rs i).length := by rw [hon, nI_eq]
  have hocl : oc.length = on := by rw [hoc, hon]; exact iC_len _
  have hacl : ac.length = k.toNat := by rw [hac, al3C_len, List.length_take]; omega
  rcases Decidable.em (k < (on : Int)) with hk | hk
  ·have e1 : gi (cellAt oc k.toNat) = iAt (ofR rs i) k.toNat := by rw [hoc]; exact gi_iC _ _
   have eo : okK (.int .i64) (cellAt oc k.toNat) := by rw [hoc]; exact ok_iC (by omega)
   have hp := hOb (iAt (ofR rs i) k.toNat) (iAt_mem _ k k1 (by rw [← hon]; exact hk))
   have hOk := hO k.toNat (by omega)
   have hz : al3C (A.take (k.toNat + 1)) = ac ++ [.sl (altG ns ts (rAt rs (iAt (ofR rs i) k.toNat).toNat)).length (itC (altG ns ts (rAt rs (iAt (ofR rs i) k.toNat).toNat)))] := by
    rw [take_aAt (by omega), hOk, hac, ← al3C_snoc _ _ rfl rfl]
   generalize hpp : iAt (ofR rs i) k.toNat = p at *
   have hR := hfit _ (rAt_mem rs p hp.1 (by rw [nR_eq]; exact hp.2))
   have e2 := hr1 p.toNat
   have e3 := hr2 p.toNat
   have e5 := hro p.toNat (by omega)
   generalize hRR : rAt rs p.toNat = R at *
   generalize y_imS : @imS = x_imS at *
   generalize y_tm14 : @tm14 = x_tm14 at *
   generalize y_rlsOf : @rlsOf = x_rlsOf at *
   generalize y_ofR : @ofR = x_ofR at *
   generalize y_validG : @validG = x_validG at *
   generalize y_iC : @iC = x_iC at *
   generalize y_nI : @nI = x_nI at *
   generalize y_strsOf : @strsOf = x_strsOf at *
   generalize y_al3C : @al3C = x_al3C at *
   generalize y_ln3C : @ln3C = x_ln3C at *
   generalize y_lsN : @lsN = x_lsN at *
   generalize y_lsC : @lsC = x_lsC at *
   generalize y_rC : @rC = x_rC at *
   generalize y_nR : @nR = x_nR at *
   generalize y_sC : @sC = x_sC at *
   generalize y_nS : @nS = x_nS at *
   generalize y_itC : @itC = x_itC at *
   (repeat' first | (refine aw_retz hj [(2, .fz)] (by cbv) ?_) | ((first | with_reducible refine tr_cut (fun h => ?_) (fun h => ?_) | refine aw_condj (by cbv) (fun h => ?_) (fun h => ?_)) <;> (try simp (disch := omega) only [hj, std, cmpI, cmpB, satB, Bool.not_eq_true, Bool.not_eq_false, decide_eq_true_eq, decide_eq_false_iff_not, beq_iff_eq, bne_iff_ne, bne_eq_false_iff_eq, beq_eq_false_iff_ne, ne_eq, reduceCtorEq, not_true_eq_false, not_false_eq_true, pl0, if_true, cmpS_eq, cmpS_neq, Bool.not_eq_eq_eq_not, Bool.not_true, Bool.not_false, Bool.not_eq_true', x1, x2, x3, e1, e2, e3, add64, sub64] at h) <;> (try (exfalso; omega))) | (with_reducible refine tr_alt (fun h => ?_) ?_ <;> (try (exfalso; omega))) | (with_reducible first | refine tr_ob ?_ ?_ | refine tr_done ?_) | (refine aw_tr hj tok (bookLn x_imS x_tm14 x_rlsOf x_ofR x_validG x_iC x_nI x_strsOf) (by cbv) ?_) | (refine aw_seq fun K hK => ?_) | (refine aw_tr1 hj tok (bookLn x_imS x_tm14 x_rlsOf x_ofR x_validG x_iC x_nI x_strsOf) (by cbv) ?_) | (refine aw_skip ?_) | (refine aw_block ?_) | (refine aw_exit ?_) | (refine aw_ret ⟨.inr rfl, ret_okj hj (by cbv) ?_ ?_⟩) | (refine aw_ret ?_) | (with_reducible first | refine th_n ?_ | refine th_r ?_ | refine th_x ?_ | refine blk_n ?_ | refine blk_r ?_ | refine blk_x ?_ | refine blk_y rfl ?_) | (refine ⟨.inr rfl, ret_okj hj (by cbv) ?_ ?_⟩) | (refine ⟨.inl rfl, ret_okj hj (by cbv) ?_ ?_⟩) | (with_reducible first | refine ⟨(_, _, _, _, _, _, _), by cbv, ?_, ?_⟩ | refine ⟨(_, _, _, _, _, _), by cbv, ?_, ?_⟩ | refine ⟨(_, _, _), by cbv, ?_, ?_⟩ | refine ⟨_, by cbv, ?_, ?_⟩) | (with_reducible apply_assumption -symm -exfalso only [*]))
   all_goals ((try subst y_imS); (try subst y_tm14); (try subst y_rlsOf); (try subst y_ofR); (try subst y_validG); (try subst y_iC); (try subst y_nI); (try subst y_strsOf); (try subst y_al3C); (try subst y_ln3C); (try subst y_lsN); (try subst y_lsC); (try subst y_rC); (try subst y_nR); (try subst y_sC); (try subst y_nS); (try subst y_itC))
   all_goals (try (repeat' first | with_reducible exact obl0 | (with_reducible refine obl1 ?_ ?_)))
   all_goals (try first | with_reducible exact True.intro | ((first | refine ob_le hj ?_ | refine ob_lei hj ?_ | refine ob_inb hj ?_ | refine ob_pos hj ?_ | refine ob_ne0 hj ?_ | refine ob_eqb hj ?_); (first | rfl | first | omega | (simp only [hj, std]; split <;> omega) | (simp (disch := omega) only [hj, std, cmpI, cmpB, satB, add64, sub64, ite0, pl0, pl2, pl3, sb0, if_true, if_false, eq_self, hocl, hrl, e1] <;> omega) | (simp (disch := omega) [hj, std, cmpI, cmpB, satB, add64, sub64, ite0, pl0, pl2, pl3, sb0, if_true, if_false, eq_self, hocl, hrl, e1] <;> omega))) | ((refine ob_ok hj ?_; simp only [hj, std, ite0, e1]; first | exact eo | exact e5)))
   refine aw_lpj hj [(1, .keep), (3, .tree shL), (6, .keep), (9, .own itTyG), (16, .keep), (17, .keep), (18, .keep), (27, .own intT), (28, .keep), (29, .keep), (38, .keep), (39, .keep), (40, .keep)] [1, 6] (fun (⟨q, un, uc, xn, xc, xl⟩ : Int × Nat × (List C) × Nat × (List C) × Int) => stOf 64 [(1, .one (.ptr 1 0)), (3, .one (.tv 3 0 [])), (6, .one (.ptr 6 0)), (9, .one (.view 9 0)), (16, .one (.c (.sl sn sc))), (17, .one (.c (vI (j.ofNat sn)))), (18, .one (.c (vI i))), (27, .one (.view 27 0)), (28, .one (.c (vI ol))), (29, .one (.c (vI k))), (38, .one (.c (.sl xn xc))), (39, .one (.c (vI xl))), (40, .one (.c (vI q)))] [(3, .loose [.tree shL ((.sl m cs)) none]), (9, .loose [.own itTyG un uc]), (27, .loose [.own intT on oc]), (1, .box [.st (.sl sn sc), .st (.sl tn tc), .st (.sl rn rc)]), (6, .box [.st (vS nm), .tree shA (.sl am ac) none])]) (fun (⟨q, un, uc, xn, xc, xl⟩ : Int × Nat × (List C) × Nat × (List C) × Int) => xn - q.toNat) (fun (⟨q, un, uc, xn, xc, xl⟩ : Int × Nat × (List C) × Nat × (List C) × Int) => 0 ≤ q ∧ q ≤ xn ∧ xn = nI R.2 ∧ xc = iC R.2 ∧ xl = xn ∧ un = q.toNat ∧ uc = itC ((altG ns ts R).take q.toNat)) ((0, 0, [], _, _, _)) (by generalize @imS = x_imS; generalize @tm14 = x_tm14; generalize @rlsOf = x_rlsOf; generalize @ofR = x_ofR; generalize @validG = x_validG; generalize @iC = x_iC; generalize @nI = x_nI; generalize @strsOf = x_strsOf; generalize @al3C = x_al3C; generalize @ln3C = x_ln3C; generalize @lsN = x_lsN; generalize @lsC = x_lsC; generalize @rC = x_rC; generalize @nR = x_nR; generalize @sC = x_sC; generalize @nS = x_nS; generalize @itC = x_itC; cbv) ?_ (fun ⟨q, un, uc, xn, xc, xl⟩ hI => ?_)
   ·simp only [hj, std, ite0, e1, e2, e3]
    exact ⟨by omega, by omega, trivial, trivial, by first | trivial | rfl, by first | trivial | rfl, rfl⟩
   obtain ⟨q1', q2', hxn, hxc, hxl, hun, huc⟩ := hI
   have hxn2 : xn = R.2.length := by rw [hxn, nI_eq]
   have hxcl : xc.length = xn := by rw [hxc, hxn]; exact iC_len _
   have haR : (altG ns ts R).length = R.2.length := by unfold altG; rw [List.length_map]
   rcases Decidable.em (q < (xn : Int)) with hq | hq
   ·have e4 : gi (cellAt xc q.toNat) = iAt R.2 q.toNat := by rw [hxc]; exact gi_iC _ _
    have eq : okK (.int .i64) (cellAt xc q.toNat) := by rw [hxc]; exact ok_iC (by omega)
    have hs := hR.2.2.2 (iAt R.2 q.toNat) (iAt_mem _ q q1' (by rw [← hxn]; exact hq))
    have hz2 : itC ((altG ns ts R).take (q.toNat + 1)) = uc ++ [vB (tm14 (iAt R.2 q.toNat)), vS (imS ns ts (iAt R.2 q.toNat))] := by
     rw [take_tAt (by omega), altG_at (by omega), huc, itC_snoc]
    have f0 : (q + 1).toNat = q.toNat + 1 := by omega
    generalize y_imS : @imS = x_imS at *
    generalize y_tm14 : @tm14 = x_tm14 at *
    generalize y_rlsOf : @rlsOf = x_rlsOf at *
    generalize y_ofR : @ofR = x_ofR at *
    generalize y_validG : @validG = x_validG at *
    generalize y_iC : @iC = x_iC at *
    generalize y_nI : @nI = x_nI at *
    generalize y_strsOf : @strsOf = x_strsOf at *
    generalize y_al3C : @al3C = x_al3C at *
    generalize y_ln3C : @ln3C = x_ln3C at *
    generalize y_lsN : @lsN = x_lsN at *
    generalize y_lsC : @lsC = x_lsC at *
    generalize y_rC : @rC = x_rC at *
    generalize y_nR : @nR = x_nR at *
    generalize y_sC : @sC = x_sC at *
    generalize y_nS : @nS = x_nS at *
    generalize y_itC : @itC = x_itC at *
    (repeat' first | (refine aw_retz hj [(2, .fz)] (by cbv) ?_) | ((first | with_reducible refine tr_cut (fun h => ?_) (fun h => ?_) | refine aw_condj (by cbv) (fun h => ?_) (fun h => ?_)) <;> (try simp (disch := omega) only [hj, std, cmpI, cmpB, satB, Bool.not_eq_true, Bool.not_eq_false, decide_eq_true_eq, decide_eq_false_iff_not, beq_iff_eq, bne_iff_ne, bne_eq_false_iff_eq, beq_eq_false_iff_ne, ne_eq, reduceCtorEq, not_true_eq_false, not_false_eq_true, pl0, if_true, cmpS_eq, cmpS_neq, Bool.not_eq_eq_eq_not, Bool.not_true, Bool.not_false, Bool.not_eq_true', x1, x2, x3, e4, add64, sub64] at h) <;> (try (exfalso; omega))) | (with_reducible refine tr_alt (fun h => ?_) ?_ <;> (try (exfalso; omega))) | (with_reducible first | refine tr_ob ?_ ?_ | refine tr_done ?_) | (refine aw_tr hj tok (bookLn x_imS x_tm14 x_rlsOf x_ofR x_validG x_iC x_nI x_strsOf) (by cbv) ?_) | (refine aw_seq fun K hK => ?_) | (refine aw_tr1 hj tok (bookLn x_imS x_tm14 x_rlsOf x_ofR x_validG x_iC x_nI x_strsOf) (by cbv) ?_) | (refine aw_skip ?_) | (refine aw_block ?_) | (refine aw_exit ?_) | (refine aw_ret ⟨.inr rfl, ret_okj hj (by cbv) ?_ ?_⟩) | (refine aw_ret ?_) | (with_reducible first | refine th_n ?_ | refine th_r ?_ | refine th_x ?_ | refine blk_n ?_ | refine blk_r ?_ | refine blk_x ?_ | refine blk_y rfl ?_) | (refine ⟨.inr rfl, ret_okj hj (by cbv) ?_ ?_⟩) | (refine ⟨.inl rfl, ret_okj hj (by cbv) ?_ ?_⟩) | (with_reducible first | refine ⟨(_, _, _, _, _, _, _), by cbv, ?_, ?_⟩ | refine ⟨(_, _, _, _, _, _), by cbv, ?_, ?_⟩ | refine ⟨(_, _, _), by cbv, ?_, ?_⟩ | refine ⟨_, by cbv, ?_, ?_⟩) | (with_reducible apply_assumption -symm -exfalso only [*]))
    all_goals ((try subst y_imS); (try subst y_tm14); (try subst y_rlsOf); (try subst y_ofR); (try subst y_validG); (try subst y_iC); (try subst y_nI); (try subst y_strsOf); (try subst y_al3C); (try subst y_ln3C); (try subst y_lsN); (try subst y_lsC); (try subst y_rC); (try subst y_nR); (try subst y_sC); (try subst y_nS); (try subst y_itC))
    all_goals (try (repeat' first | with_reducible exact obl0 | (with_reducible refine obl1 ?_ ?_)))
    all_goals (try first | with_reducible exact True.intro | ((first | refine ob_pc hj ?_ | refine ob_pcn hj ?_); (try rw [hj]); first | exact (by simp only [std]; rw [e4]; exact q3 _ hs) | exact (q3 _ (by rw [e4]; exact hs))) | ((first | refine ob_le hj ?_ | refine ob_lei hj ?_ | refine ob_inb hj ?_ | refine ob_pos hj ?_ | refine ob_ne0 hj ?_ | refine ob_eqb hj ?_); (first | rfl | first | omega | (simp only [hj, std]; split <;> omega) | (simp (disch := omega) only [hj, std, cmpI, cmpB, satB, add64, sub64, ite0, pl0, pl2, pl3, sb0, if_true, if_false, eq_self, hxcl] <;> omega) | (simp (disch := omega) [hj, std, cmpI, cmpB, satB, add64, sub64, ite0, pl0, pl2, pl3, sb0, if_true, if_false, eq_self, hxcl] <;> omega))) | ((refine ob_ok hj ?_; simp only [hj, std, ite0]; exact eq)) | ((simp (disch := omega) only [hj, std, add64, ite0, e4, x1, x2]; first | omega | (refine ⟨by omega, by omega, hxn, hxc, hxl, by omega, ?_⟩; rw [f0]; exact hz2.symm))))
   ·have f0 : (k + 1).toNat = k.toNat + 1 := by omega
    have hall : uc = itC (altG ns ts R) := by rw [huc, List.take_of_length_le (by omega)]
    generalize y_imS : @imS = x_imS at *
    generalize y_tm14 : @tm14 = x_tm14 at *
    generalize y_rlsOf : @rlsOf = x_rlsOf at *
    generalize y_ofR : @ofR = x_ofR at *
    generalize y_validG : @validG = x_validG at *
    generalize y_iC : @iC = x_iC at *
    generalize y_nI : @nI = x_nI at *
    generalize y_strsOf : @strsOf = x_strsOf at *
    generalize y_al3C : @al3C = x_al3C at *
    generalize y_ln3C : @ln3C = x_ln3C at *
    generalize y_lsN : @lsN = x_lsN at *
    generalize y_lsC : @lsC = x_lsC at *
    generalize y_rC : @rC = x_rC at *
    generalize y_nR : @nR = x_nR at *
    generalize y_sC : @sC = x_sC at *
    generalize y_nS : @nS = x_nS at *
    generalize y_itC : @itC = x_itC at *
    (repeat' first | (refine aw_retz hj [(2, .fz)] (by cbv) ?_) | ((first | with_reducible refine tr_cut (fun h => ?_) (fun h => ?_) | refine aw_condj (by cbv) (fun h => ?_) (fun h => ?_)) <;> (try simp (disch := omega) only [hj, std, cmpI, cmpB, satB, Bool.not_eq_true, Bool.not_eq_false, decide_eq_true_eq, decide_eq_false_iff_not, beq_iff_eq, bne_iff_ne, bne_eq_false_iff_eq, beq_eq_false_iff_ne, ne_eq, reduceCtorEq, not_true_eq_false, not_false_eq_true, pl0, if_true, cmpS_eq, cmpS_neq, Bool.not_eq_eq_eq_not, Bool.not_true, Bool.not_false, Bool.not_eq_true', x1, x2, x3, add64, sub64] at h) <;> (try (exfalso; omega))) | (with_reducible refine tr_alt (fun h => ?_) ?_ <;> (try (exfalso; omega))) | (with_reducible first | refine tr_ob ?_ ?_ | refine tr_done ?_) | (refine aw_tr hj tok (bookLn x_imS x_tm14 x_rlsOf x_ofR x_validG x_iC x_nI x_strsOf) (by cbv) ?_) | (refine aw_seq fun K hK => ?_) | (refine aw_tr1 hj tok (bookLn x_imS x_tm14 x_rlsOf x_ofR x_validG x_iC x_nI x_strsOf) (by cbv) ?_) | (refine aw_skip ?_) | (refine aw_block ?_) | (refine aw_exit ?_) | (refine aw_ret ⟨.inr rfl, ret_okj hj (by cbv) ?_ ?_⟩) | (refine aw_ret ?_) | (with_reducible first | refine th_n ?_ | refine th_r ?_ | refine th_x ?_ | refine blk_n ?_ | refine blk_r ?_ | refine blk_x ?_ | refine blk_y rfl ?_) | (refine ⟨.inr rfl, ret_okj hj (by cbv) ?_ ?_⟩) | (refine ⟨.inl rfl, ret_okj hj (by cbv) ?_ ?_⟩) | (with_reducible first | refine ⟨(_, _, _, _, _, _, _), by cbv, ?_, ?_⟩ | refine ⟨(_, _, _, _, _, _), by cbv, ?_, ?_⟩ | refine ⟨(_, _, _), by cbv, ?_, ?_⟩ | refine ⟨_, by cbv, ?_, ?_⟩) | (with_reducible apply_assumption -symm -exfalso only [*]))
    all_goals ((try subst y_imS); (try subst y_tm14); (try subst y_rlsOf); (try subst y_ofR); (try subst y_validG); (try subst y_iC); (try subst y_nI); (try subst y_strsOf); (try subst y_al3C); (try subst y_ln3C); (try subst y_lsN); (try subst y_lsC); (try subst y_rC); (try subst y_nR); (try subst y_sC); (try subst y_nS); (try subst y_itC))
    all_goals (try (repeat' first | with_reducible exact obl0 | (with_reducible refine obl1 ?_ ?_)))
    all_goals (try first | with_reducible exact True.intro | ((first | refine ob_le hj ?_ | refine ob_lei hj ?_ | refine ob_inb hj ?_ | refine ob_pos hj ?_ | refine ob_ne0 hj ?_ | refine ob_eqb hj ?_); (first | rfl | first | omega | (simp only [hj, std]; split <;> omega) | (simp (disch := omega) only [hj, std, cmpI, cmpB, satB, add64, sub64, ite0, pl0, pl2, pl3, sb0, if_true, if_false, eq_self, hacl] <;> omega) | (simp (disch := omega) [hj, std, cmpI, cmpB, satB, add64, sub64, ite0, pl0, pl2, pl3, sb0, if_true, if_false, eq_self, hacl] <;> omega))) | ((simp (disch := omega) only [hj, std, add64, ite0]; first | omega | (refine ⟨by omega, by omega, hon, hoc, hol, hnm, by omega, ?_⟩; rw [f0, hz, ← hall, show un = (altG ns ts R).length by omega]))))
  ·have f0 : (i + 1).toNat = i.toNat + 1 := by omega
   have hall : ac = al3C A := by rw [hac, List.take_of_length_le (by omega)]
   generalize y_imS : @imS = x_imS at *
   generalize y_tm14 : @tm14 = x_tm14 at *
   generalize y_rlsOf : @rlsOf = x_rlsOf at *
   generalize y_ofR : @ofR = x_ofR at *
   generalize y_validG : @validG = x_validG at *
   generalize y_iC : @iC = x_iC at *
   generalize y_nI : @nI = x_nI at *
   generalize y_strsOf : @strsOf = x_strsOf at *
   generalize y_al3C : @al3C = x_al3C at *
   generalize y_ln3C : @ln3C = x_ln3C at *
   generalize y_lsN : @lsN = x_lsN at *
   generalize y_lsC : @lsC = x_lsC at *
   generalize y_rC : @rC = x_rC at *
   generalize y_nR : @nR = x_nR at *
   generalize y_sC : @sC = x_sC at *
   generalize y_nS : @nS = x_nS at *
   generalize y_itC : @itC = x_itC at *
   (repeat' first | (refine aw_retz hj [(2, .fz)] (by cbv) ?_) | ((first | with_reducible refine tr_cut (fun h => ?_) (fun h => ?_) | refine aw_condj (by cbv) (fun h => ?_) (fun h => ?_)) <;> (try simp (disch := omega) only [hj, std, cmpI, cmpB, satB, Bool.not_eq_true, Bool.not_eq_false, decide_eq_true_eq, decide_eq_false_iff_not, beq_iff_eq, bne_iff_ne, bne_eq_false_iff_eq, beq_eq_false_iff_ne, ne_eq, reduceCtorEq, not_true_eq_false, not_false_eq_true, pl0, if_true, cmpS_eq, cmpS_neq, Bool.not_eq_eq_eq_not, Bool.not_true, Bool.not_false, Bool.not_eq_true', x1, x2, x3, add64, sub64] at h) <;> (try (exfalso; omega))) | (with_reducible refine tr_alt (fun h => ?_) ?_ <;> (try (exfalso; omega))) | (with_reducible first | refine tr_ob ?_ ?_ | refine tr_done ?_) | (refine aw_tr hj tok (bookLn x_imS x_tm14 x_rlsOf x_ofR x_validG x_iC x_nI x_strsOf) (by cbv) ?_) | (refine aw_seq fun K hK => ?_) | (refine aw_tr1 hj tok (bookLn x_imS x_tm14 x_rlsOf x_ofR x_validG x_iC x_nI x_strsOf) (by cbv) ?_) | (refine aw_skip ?_) | (refine aw_block ?_) | (refine aw_exit ?_) | (refine aw_ret ⟨.inr rfl, ret_okj hj (by cbv) ?_ ?_⟩) | (refine aw_ret ?_) | (with_reducible first | refine th_n ?_ | refine th_r ?_ | refine th_x ?_ | refine blk_n ?_ | refine blk_r ?_ | refine blk_x ?_ | refine blk_y rfl ?_) | (refine ⟨.inr rfl, ret_okj hj (by cbv) ?_ ?_⟩) | (refine ⟨.inl rfl, ret_okj hj (by cbv) ?_ ?_⟩) | (with_reducible first | refine ⟨(_, _, _, _, _, _, _), by cbv, ?_, ?_⟩ | refine ⟨(_, _, _, _, _, _), by cbv, ?_, ?_⟩ | refine ⟨(_, _, _), by cbv, ?_, ?_⟩ | refine ⟨_, by cbv, ?_, ?_⟩) | (with_reducible apply_assumption -symm -exfalso only [*]))
   all_goals ((try subst y_imS); (try subst y_tm14); (try subst y_rlsOf); (try subst y_ofR); (try subst y_validG); (try subst y_iC); (try subst y_nI); (try subst y_strsOf); (try subst y_al3C); (try subst y_ln3C); (try subst y_lsN); (try subst y_lsC); (try subst y_rC); (try subst y_nR); (try subst y_sC); (try subst y_nS); (try subst y_itC))
   all_goals (try (repeat' first | with_reducible exact obl0 | (with_reducible refine obl1 ?_ ?_)))
   all_goals (try first | with_reducible exact True.intro | ((first | refine ob_le hj ?_ | refine ob_lei hj ?_ | refine ob_inb hj ?_ | refine ob_pos hj ?_ | refine ob_ne0 hj ?_ | refine ob_eqb hj ?_); (first | rfl | first | omega | (simp only [hj, std]; split <;> omega) | (simp (disch := omega) only [hj, std, cmpI, cmpB, satB, add64, sub64, ite0, pl0, pl2, pl3, sb0, if_true, if_false, eq_self, hcl] <;> omega) | (simp (disch := omega) [hj, std, cmpI, cmpB, satB, add64, sub64, ite0, pl0, pl2, pl3, sb0, if_true, if_false, eq_self, hcl] <;> omega))) | ((simp (disch := omega) only [hj, std, add64, ite0]; first | omega | (refine ⟨by omega, by omega, by omega, ?_⟩; rw [f0, hstep, ← hall, ← hnm, show am = A.length by omega]))))
 ·have hall : cs = ln3C (lnG ns ts rs) := by rw [hcs, List.take_of_length_le (by rw [lnG_len]; omega)]
  generalize y_imS : @imS = x_imS at *
  generalize y_tm14 : @tm14 = x_tm14 at *
  generalize y_rlsOf : @rlsOf = x_rlsOf at *
  generalize y_ofR : @ofR = x_ofR at *
  generalize y_validG : @validG = x_validG at *
  generalize y_iC : @iC = x_iC at *
  generalize y_nI : @nI = x_nI at *
  generalize y_strsOf : @strsOf = x_strsOf at *
  generalize y_al3C : @al3C = x_al3C at *
  generalize y_ln3C : @ln3C = x_ln3C at *
  generalize y_lsN : @lsN = x_lsN at *
  generalize y_lsC : @lsC = x_lsC at *
  generalize y_rC : @rC = x_rC at *
  generalize y_nR : @nR = x_nR at *
  generalize y_sC : @sC = x_sC at *
  generalize y_nS : @nS = x_nS at *
  generalize y_itC : @itC = x_itC at *
  (repeat' first | (refine aw_retz hj [(2, .fz)] (by cbv) ?_) | ((first | with_reducible refine tr_cut (fun h => ?_) (fun h => ?_) | refine aw_condj (by cbv) (fun h => ?_) (fun h => ?_)) <;> (try simp (disch := omega) only [hj, std, cmpI, cmpB, satB, Bool.not_eq_true, Bool.not_eq_false, decide_eq_true_eq, decide_eq_false_iff_not, beq_iff_eq, bne_iff_ne, bne_eq_false_iff_eq, beq_eq_false_iff_ne, ne_eq, reduceCtorEq, not_true_eq_false, not_false_eq_true, pl0, if_true, cmpS_eq, cmpS_neq, Bool.not_eq_eq_eq_not, Bool.not_true, Bool.not_false, Bool.not_eq_true', x1, x2, x3, add64, sub64] at h) <;> (try (exfalso; omega))) | (with_reducible refine tr_alt (fun h => ?_) ?_ <;> (try (exfalso; omega))) | (with_reducible first | refine tr_ob ?_ ?_ | refine tr_done ?_) | (refine aw_tr hj tok (bookLn x_imS x_tm14 x_rlsOf x_ofR x_validG x_iC x_nI x_strsOf) (by cbv) ?_) | (refine aw_seq fun K hK => ?_) | (refine aw_tr1 hj tok (bookLn x_imS x_tm14 x_rlsOf x_ofR x_validG x_iC x_nI x_strsOf) (by cbv) ?_) | (refine aw_skip ?_) | (refine aw_block ?_) | (refine aw_exit ?_) | (refine aw_ret ⟨.inr rfl, ret_okj hj (by cbv) ?_ ?_⟩) | (refine aw_ret ?_) | (with_reducible first | refine th_n ?_ | refine th_r ?_ | refine th_x ?_ | refine blk_n ?_ | refine blk_r ?_ | refine blk_x ?_ | refine blk_y rfl ?_) | (refine ⟨.inr rfl, ret_okj hj (by cbv) ?_ ?_⟩) | (refine ⟨.inl rfl, ret_okj hj (by cbv) ?_ ?_⟩) | (with_reducible first | refine ⟨(_, _, _, _, _, _, _), by cbv, ?_, ?_⟩ | refine ⟨(_, _, _, _, _, _), by cbv, ?_, ?_⟩ | refine ⟨(_, _, _), by cbv, ?_, ?_⟩ | refine ⟨_, by cbv, ?_, ?_⟩) | (with_reducible apply_assumption -symm -exfalso only [*]))
  all_goals ((try subst y_imS); (try subst y_tm14); (try subst y_rlsOf); (try subst y_ofR); (try subst y_validG); (try subst y_iC); (try subst y_nI); (try subst y_strsOf); (try subst y_al3C); (try subst y_ln3C); (try subst y_lsN); (try subst y_lsC); (try subst y_rC); (try subst y_nR); (try subst y_sC); (try subst y_nS); (try subst y_itC))
  all_goals (try (repeat' first | with_reducible exact obl0 | with_reducible refine obl1 ?_ ?_))
  all_goals (try first | with_reducible exact True.intro | ((first | refine ob_le hj ?_ | refine ob_lei hj ?_ | refine ob_inb hj ?_ | refine ob_pos hj ?_ | refine ob_ne0 hj ?_ | refine ob_eqb hj ?_); (first | rfl | first | omega | (simp only [hj, std]; split <;> omega) | (simp (disch := omega) only [hj, std, cmpI, cmpB, satB, add64, sub64, ite0, pl0, pl2, pl3, sb0, if_true, if_false, eq_self, hsl] <;> omega) | (simp (disch := omega) [hj, std, cmpI, cmpB, satB, add64, sub64, ite0, pl0, pl2, pl3, sb0, if_true, if_false, eq_self, hsl] <;> omega))) | ((rw [w1, w2, ← hall, show ns.length = m by omega]; rfl)))
end Go.Proofs.Ytgimfjmigoibgaa.A
/- Grammars: do they stand in order ? -/
set_option linter.unusedSimpArgs false
set_option linter.unusedVariables false
set_option maxRecDepth 100000
set_option maxHeartbeats 4000000
namespace Go.Proofs.Ytgimfjmigoibgaa.A
open Go
theorem ordF_cons (p : Int) (n : Nat) (r : Rl) (l : List Rl) : ordF p n (r :: l) = if r.1 < p then none else match ordGo n r.2 with | none => none | some m => ordF r.1 m l := rfl
theorem ordGo_cons (n : Nat) (s : Int) (l : List Int) : ordGo n (s :: l) = if s < 0 ∧ (n : Int) < -1 - s then none else ordGo (if s = -1 - (n : Int) then n + 1 else n) l := rfl
def prevL (rs : List Rl) (i : Int) : Int := if i = 0 then (rAt rs 0).1 else (rAt rs (i.toNat - 1)).1
def ordIn (rs : List Rl) (i k : Int) (n : Nat) : Option Nat := match ordGo n ((rAt rs i.toNat).2.drop k.toNat) with | none => none | some m => ordF (rAt rs i.toNat).1 m (rs.drop (i + 1).toNat)
theorem pc_ordered (ns ts : List ByteArray) (rs : List Rl) (hn : nS ns ≤ 1000000) (ht : nS ts ≤ 1000000) (hr : nR rs ≤ 1000000) (hi : ∀ r ∈ rs, nI r.2 ≤ 1000000) (hsy : ∀ r ∈ rs, ∀ x ∈ r.2, -1000000 ≤ x ∧ x ≤ 1000000) :
    PC Try.prog T 23 [.v true [(C.sl (nS ns) (sC ns)), (C.sl (nS ts) (sC ts)), (C.sl (nR rs) (rC rs))]] (ret1 (.st (vB (ordG ts rs)))) [] := by
  have nt := nS_eq ts; have nr := nR_eq rs
  have hr0 : ∀ k, gi (cellAt (rC rs) (k * 2)) = (rAt rs k).1 := fun k => gi_rC rs k
  have hr1 : ∀ k, gn (cellAt (rC rs) (k * 2 + 1)) = nI (rAt rs k).2 := fun k => gn_rC rs k
  have hr2 : ∀ k, gc (cellAt (rC rs) (k * 2 + 1)) = iC (rAt rs k).2 := fun k => gc_rC rs k
  have ho0 : ∀ k, k < rs.length → okK (.int .i64) (cellAt (rC rs) (k * 2)) := fun k h => ok_rC0 h
  have ho1 : ∀ k, k < rs.length → okK .sl (cellAt (rC rs) (k * 2 + 1)) := fun k h => ok_rC1 h
  have hrl : (rC rs).length = nR rs * 2 := rC_len rs
  have hord : ordG ts rs = decide (ordF (rAt rs 0).1 0 rs = some ts.length) := rfl
  generalize hA1 : nS ns = sn at *
  generalize hA2 : sC ns = sc at *
  generalize hA3 : nS ts = tn at *
  generalize hA4 : sC ts = tc at *
  generalize hA5 : nR rs = rn at *
  generalize hA6 : rC rs = rc at *
  refine pc_of tok Try.func23 rfl (by rfl) ?_
  obtain ⟨j, hj⟩ : ∃ j : J, j = std Try.prog T := ⟨_, rfl⟩
  have hm : Try.prog.follows .mixedOrders = true := by kernel_rfl
  generalize y_ordG : @ordG = x_ordG at *
  generalize y_rC : @rC = x_rC at *
  generalize y_nR : @nR = x_nR at *
  generalize y_sC : @sC = x_sC at *
  generalize y_iC : @iC = x_iC at *
  generalize y_nS : @nS = x_nS at *
  generalize y_nI : @nI = x_nI at *
  (repeat' first | ((first | with_reducible refine tr_cut (fun h => ?_) (fun h => ?_) | refine aw_condj (by cbv) (fun h => ?_) (fun h => ?_)) <;> (try simp (disch := omega) only [hj, std, cmpI, cmpB, satB, Bool.not_eq_true, Bool.not_eq_false, decide_eq_true_eq, decide_eq_false_iff_not, beq_iff_eq, bne_iff_ne, bne_eq_false_iff_eq, beq_eq_false_iff_ne, ne_eq, reduceCtorEq, not_true_eq_false, not_false_eq_true, pl0, if_true, cmpS_eq, cmpS_neq, Bool.not_eq_eq_eq_not, Bool.not_true, Bool.not_false, Bool.not_eq_true', add64, sub64] at h) <;> (try (exfalso; omega))) | (with_reducible refine tr_alt (fun h => ?_) ?_ <;> (try (exfalso; omega))) | (with_reducible first | refine tr_ob ?_ ?_ | refine tr_done ?_) | (refine aw_tr hj tok book0 (by cbv) ?_) | (refine aw_seq fun K hK => ?_) | (refine aw_tr1 hj tok book0 (by cbv) ?_) | (refine aw_skip ?_) | (refine aw_block ?_) | (refine aw_exit ?_) | (refine aw_ret ⟨.inr rfl, ret_okj hj (by cbv) ?_ ?_⟩) | (refine aw_ret ?_) | (with_reducible first | refine th_n ?_ | refine th_r ?_ | refine th_x ?_ | refine blk_n ?_ | refine blk_r ?_ | refine blk_x ?_ | refine blk_y rfl ?_) | (refine ⟨.inr rfl, ret_okj hj (by cbv) ?_ ?_⟩) | (refine ⟨.inl rfl, ret_okj hj (by cbv) ?_ ?_⟩) | (with_reducible first | refine ⟨(_, _), by cbv, ?_, ?_⟩ | refine ⟨_, by cbv, ?_, ?_⟩) | (with_reducible apply_assumption -symm -exfalso only [*]))
  all_goals ((try subst y_ordG); (try subst y_rC); (try subst y_nR); (try subst y_sC); (try subst y_iC); (try subst y_nS); (try subst y_nI))
  refine aw_lpj hj [(1, .keep), (3, .keep), (4, .keep)] [1] (fun (⟨i, n⟩ : Int × Int) => stOf 75 [(1, .one (.ptr 1 0)), (3, .one (.c (vI n))), (4, .one (.c (vI i)))] [(1, .box [.st (.sl sn sc), .st (.sl tn tc), .st (.sl rn rc)])]) (fun (⟨i, n⟩ : Int × Int) => rn - i.toNat) (fun (⟨i, n⟩ : Int × Int) => 0 ≤ i ∧ i ≤ rn ∧ 0 ≤ n ∧ n ≤ i * 1000000 ∧ ordG ts rs = decide (ordF (prevL rs i) n.toNat (rs.drop i.toNat) = some ts.length)) ((0, 0)) (by generalize @ordG = x_ordG; generalize @rC = x_rC; generalize @nR = x_nR; generalize @sC = x_sC; generalize @iC = x_iC; generalize @nS = x_nS; generalize @nI = x_nI; cbv) ?_ (fun ⟨i, n⟩ hI => ?_)
  · exact ⟨by omega, by omega, by omega, by omega, hord⟩
  obtain ⟨i1, i2, n1, n2, hI⟩ := hI
  rcases Decidable.em (i < (rn : Int)) with hil | hil
  · have hd : rs.drop i.toNat = rAt rs i.toNat :: rs.drop (i + 1).toNat := rdrop_step rs i i1 (by rw [nR_eq]; omega)
    rw [hd, ordF_cons] at hI
    have e0 := hr0 i.toNat
    have e1 := hr1 i.toNat
    have e2 := hr2 i.toNat
    have e3 := hr0 (i.toNat - 1)
    have e3' : gi (cellAt rc ((i - 1).toNat * 2)) = (rAt rs (i.toNat - 1)).1 := by rw [show (i - 1).toNat = i.toNat - 1 by omega]; exact e3
    have o0 := ho0 i.toNat (by omega)
    have o1 := ho1 i.toNat (by omega)
    have o3 := ho0 (i.toNat - 1) (by omega)
    have em : i > 0 → (arithI .sub .i64 i 1).toNat = i.toNat - 1 := fun h => by rw [sub64 (by omega) (by omega)]; omega
    have hsz : nI (rAt rs i.toNat).2 ≤ 1000000 := hi _ (rAt_mem rs i i1 (by rw [nR_eq]; omega))
    have hno : i > 0 → (rAt rs i.toNat).1 < (rAt rs (i.toNat - 1)).1 → ordG ts rs = false := fun h1 h2 => by
      rw [hI, if_pos (by unfold prevL; rw [if_neg (by omega)]; exact h2)]; rfl
    have hyes : (i > 0 → ¬ (rAt rs i.toNat).1 < (rAt rs (i.toNat - 1)).1) → ordG ts rs = decide (ordIn rs i 0 n.toNat = some ts.length) := fun h => by
      rw [hI, if_neg (by
        unfold prevL
        by_cases hz : i = 0
        · subst hz; rw [if_pos rfl]; exact Int.lt_irrefl _
        · rw [if_neg hz]; exact h (by omega))]; rfl
    generalize y_ordG : @ordG = x_ordG at *
    generalize y_rC : @rC = x_rC at *
    generalize y_nR : @nR = x_nR at *
    generalize y_sC : @sC = x_sC at *
    generalize y_iC : @iC = x_iC at *
    generalize y_nS : @nS = x_nS at *
    generalize y_nI : @nI = x_nI at *
    (repeat' first | ((first | with_reducible refine tr_cut (fun h => ?_) (fun h => ?_) | refine aw_condj (by cbv) (fun h => ?_) (fun h => ?_)) <;> (try simp (disch := omega) only [hj, std, cmpI, cmpB, satB, Bool.not_eq_true, Bool.not_eq_false, decide_eq_true_eq, decide_eq_false_iff_not, beq_iff_eq, bne_iff_ne, bne_eq_false_iff_eq, beq_eq_false_iff_ne, ne_eq, reduceCtorEq, not_true_eq_false, not_false_eq_true, pl0, if_true, cmpS_eq, cmpS_neq, Bool.not_eq_eq_eq_not, Bool.not_true, Bool.not_false, Bool.not_eq_true', e0, em, e3, e3', add64, sub64] at h) <;> (try (exfalso; omega))) | (with_reducible refine tr_alt (fun h => ?_) ?_ <;> (try (exfalso; omega))) | (with_reducible first | refine tr_ob ?_ ?_ | refine tr_done ?_) | (refine aw_dr1 (id := 5) hj tok hm book0 true [(0, true), (1, true), (2, true), (3, false), (4, false), (5, false), (6, false), (7, false), (8, false), (9, false), (10, false), (11, true), (12, true), (13, true), (14, true), (15, true), (16, true), (17, true)] (by kernel_rfl) (by cbv) ?_) | (refine aw_dr (id := 5) hj tok hm book0 true [(0, true), (1, true), (2, true), (3, false), (4, false), (5, false), (6, false), (7, false), (8, false), (9, false), (10, false), (11, true), (12, true), (13, true), (14, true), (15, true), (16, true), (17, true)] (by kernel_rfl) (by cbv) ?_) | (refine aw_tr hj tok book0 (by cbv) ?_) | (refine aw_seq fun K hK => ?_) | (refine aw_tr1 hj tok book0 (by cbv) ?_) | (refine aw_skip ?_) | (refine aw_block ?_) | (refine aw_exit ?_) | (refine aw_ret ⟨.inr rfl, ret_okj hj (by cbv) ?_ ?_⟩) | (refine aw_ret ?_) | (with_reducible first | refine th_n ?_ | refine th_r ?_ | refine th_x ?_ | refine blk_n ?_ | refine blk_r ?_ | refine blk_x ?_ | refine blk_y rfl ?_) | (refine ⟨.inr rfl, ret_okj hj (by cbv) ?_ ?_⟩) | (refine ⟨.inl rfl, ret_okj hj (by cbv) ?_ ?_⟩) | (with_reducible first | refine ⟨(_, _), by cbv, ?_, ?_⟩ | refine ⟨_, by cbv, ?_, ?_⟩) | (with_reducible apply_assumption -symm -exfalso only [*]))
    all_goals ((try subst y_ordG); (try subst y_rC); (try subst y_nR); (try subst y_sC); (try subst y_iC); (try subst y_nS); (try subst y_nI))
    all_goals (try (repeat' first | with_reducible exact obl0 | (with_reducible refine obl1 ?_ ?_)))
    all_goals (try first | with_reducible exact True.intro | ((first | refine ob_le hj ?_ | refine ob_lei hj ?_ | refine ob_inb hj ?_ | refine ob_pos hj ?_ | refine ob_ne0 hj ?_ | refine ob_eqb hj ?_); (first | rfl | first | omega | (simp only [hj, std]; split <;> omega) | (simp (disch := omega) only [hj, std, cmpI, cmpB, satB, add64, sub64, ite0, pl0, pl2, pl3, sb0, if_true, if_false, eq_self, hrl, em] <;> omega) | (simp (disch := omega) [hj, std, cmpI, cmpB, satB, add64, sub64, ite0, pl0, pl2, pl3, sb0, if_true, if_false, eq_self, hrl, em] <;> omega))) | ((refine ob_ok hj ?_; simp only [hj, std, ite0]; first | exact o0 | exact o1 | (rw [em (by omega)]; exact o3))) | ((refine r1b ?_; exact hno (by omega) (by omega))))
    · have hin := hyes (fun _ => by omega)
      clear hno hyes hI
      refine aw_lpj hj [(1, .keep), (3, .keep), (4, .keep), (5, .keep)] [1] (fun (⟨k, m⟩ : Int × Int) => stOf 75 [(1, .one (.ptr 1 0)), (3, .one (.c (vI m))), (4, .one (.c (vI i))), (5, .one (.c (vI k)))] [(1, .box [.st (.sl sn sc), .st (.sl tn tc), .st (.sl rn rc)])]) (fun (⟨k, m⟩ : Int × Int) => nI (rAt rs i.toNat).2 - k.toNat) (fun (⟨k, m⟩ : Int × Int) => 0 ≤ k ∧ k ≤ nI (rAt rs i.toNat).2 ∧ 0 ≤ m ∧ m ≤ i * 1000000 + k ∧ ordG ts rs = decide (ordIn rs i k m.toNat = some ts.length)) ((0, n)) (by generalize @ordG = x_ordG; generalize @rC = x_rC; generalize @nR = x_nR; generalize @sC = x_sC; generalize @iC = x_iC; generalize @nS = x_nS; generalize @nI = x_nI; cbv) ?_ (fun ⟨k, m⟩ hI => ?_)
      · exact ⟨by omega, by omega, by omega, by omega, hin⟩
      obtain ⟨k1, k2, m1, m2, hk⟩ := hI
      have e4 : gi (cellAt (gc (cellAt rc (i.toNat * 2 + 1))) k.toNat) = iAt (rAt rs i.toNat).2 k.toNat := by rw [e2]; exact gi_iC _ _
      have e5 : (gc (cellAt rc (i.toNat * 2 + 1))).length = nI (rAt rs i.toNat).2 := by rw [e2]; exact iC_len _
      have hRm := rAt_mem rs i i1 (by rw [nR_eq]; omega)
      rcases Decidable.em (k < (nI (rAt rs i.toNat).2 : Int)) with hkl | hkl
      · have o4 : okK (.int .i64) (cellAt (gc (cellAt rc (i.toNat * 2 + 1))) k.toNat) := by rw [e2]; exact ok_iC (by rw [nI_eq] at hkl; omega)
        have hs := hsy _ hRm (iAt (rAt rs i.toNat).2 k.toNat) (iAt_mem _ k k1 hkl)
        have hd2 := idrop_step (rAt rs i.toNat).2 k k1 hkl
        have hk' := hk
        unfold ordIn at hk'
        rw [hd2, ordGo_cons] at hk'
        have hin1 : ∀ m' : Nat, ordIn rs i (k + 1) m' = match ordGo m' ((rAt rs i.toNat).2.drop (k + 1).toNat) with | none => none | some m => ordF (rAt rs i.toNat).1 m (rs.drop (i + 1).toNat) := fun _ => rfl
        generalize iAt (rAt rs i.toNat).2 k.toNat = s at *
        have es : s < 0 → arithI .sub .i64 (-1) s = -1 - s := fun h => sub64 (by omega) (by omega)
        have hbad : s < 0 → -1 - s > m → ordG ts rs = false := fun h1 h2 => by rw [hk', if_pos ⟨h1, by omega⟩]; rfl
        have hnx1 : s < 0 → -1 - s = m → ordG ts rs = decide (ordIn rs i (k + 1) (m + 1).toNat = some ts.length) := fun h1 h2 => by
          rw [hk', if_neg (by omega), if_pos (by omega), hin1, show (m + 1).toNat = m.toNat + 1 by omega]
        have hnx0 : (s < 0 → ¬ -1 - s > m) → (s < 0 → ¬ -1 - s = m) → ordG ts rs = decide (ordIn rs i (k + 1) m.toNat = some ts.length) := fun h1 h2 => by
          rw [hk', if_neg (by rintro ⟨a, b⟩; exact h1 a (by omega)), if_neg (by intro a; exact h2 (by omega) (by omega)), hin1]
        generalize y_ordG : @ordG = x_ordG at *
        generalize y_rC : @rC = x_rC at *
        generalize y_nR : @nR = x_nR at *
        generalize y_sC : @sC = x_sC at *
        generalize y_iC : @iC = x_iC at *
        generalize y_nS : @nS = x_nS at *
        generalize y_nI : @nI = x_nI at *
        (repeat' first | ((first | with_reducible refine tr_cut (fun h => ?_) (fun h => ?_) | refine aw_condj (by cbv) (fun h => ?_) (fun h => ?_)) <;> (try simp (disch := omega) only [hj, std, cmpI, cmpB, satB, Bool.not_eq_true, Bool.not_eq_false, decide_eq_true_eq, decide_eq_false_iff_not, beq_iff_eq, bne_iff_ne, bne_eq_false_iff_eq, beq_eq_false_iff_ne, ne_eq, reduceCtorEq, not_true_eq_false, not_false_eq_true, pl0, if_true, cmpS_eq, cmpS_neq, Bool.not_eq_eq_eq_not, Bool.not_true, Bool.not_false, Bool.not_eq_true', ite0, e1, e4, es, add64, sub64] at h) <;> (try (exfalso; omega))) | (with_reducible refine tr_alt (fun h => ?_) ?_ <;> (try (exfalso; omega))) | (with_reducible first | refine tr_ob ?_ ?_ | refine tr_done ?_) | (refine aw_tr hj tok book0 (by cbv) ?_) | (refine aw_seq fun K hK => ?_) | (refine aw_tr1 hj tok book0 (by cbv) ?_) | (refine aw_skip ?_) | (refine aw_block ?_) | (refine aw_exit ?_) | (refine aw_ret ⟨.inr rfl, ret_okj hj (by cbv) ?_ ?_⟩) | (refine aw_ret ?_) | (with_reducible first | refine th_n ?_ | refine th_r ?_ | refine th_x ?_ | refine blk_n ?_ | refine blk_r ?_ | refine blk_x ?_ | refine blk_y rfl ?_) | (refine ⟨.inr rfl, ret_okj hj (by cbv) ?_ ?_⟩) | (refine ⟨.inl rfl, ret_okj hj (by cbv) ?_ ?_⟩) | (with_reducible first | refine ⟨(_, _), by cbv, ?_, ?_⟩ | refine ⟨_, by cbv, ?_, ?_⟩) | (with_reducible apply_assumption -symm -exfalso only [*]))
        all_goals ((try subst y_ordG); (try subst y_rC); (try subst y_nR); (try subst y_sC); (try subst y_iC); (try subst y_nS); (try subst y_nI))
        all_goals (try (repeat' first | with_reducible exact obl0 | (with_reducible refine obl1 ?_ ?_)))
        all_goals (try first | with_reducible exact True.intro | ((first | refine ob_le hj ?_ | refine ob_lei hj ?_ | refine ob_inb hj ?_ | refine ob_pos hj ?_ | refine ob_ne0 hj ?_ | refine ob_eqb hj ?_); (first | rfl | first | omega | (simp only [hj, std]; split <;> omega) | (simp (disch := omega) only [hj, std, cmpI, cmpB, satB, add64, sub64, ite0, pl0, pl2, pl3, sb0, if_true, if_false, eq_self, hrl, e1, e4, e5, es] <;> omega) | (simp (disch := omega) [hj, std, cmpI, cmpB, satB, add64, sub64, ite0, pl0, pl2, pl3, sb0, if_true, if_false, eq_self, hrl, e1, e4, e5, es] <;> omega))) | ((refine ob_ok hj ?_; simp only [hj, std, ite0]; first | exact o0 | exact o1 | exact o4)) | ((refine r1b ?_; exact hbad (by omega) (by omega))) | ((simp (disch := omega) only [hj, std, add64, ite0, e4, es]; first | omega | exact ⟨by omega, by omega, by omega, by omega, hnx1 (by omega) (by omega)⟩ | exact ⟨by omega, by omega, by omega, by omega, hnx0 (by omega) (by omega)⟩)))
      · have hout : ordG ts rs = decide (ordF (prevL rs (i + 1)) m.toNat (rs.drop (i + 1).toNat) = some ts.length) := by
          rw [hk]
          unfold ordIn
          rw [List.drop_eq_nil_of_le (by rw [nI_eq] at hkl; omega)]
          unfold prevL
          rw [if_neg (by omega), show (i + 1).toNat - 1 = i.toNat by omega]; rfl
        generalize y_ordG : @ordG = x_ordG at *
        generalize y_rC : @rC = x_rC at *
        generalize y_nR : @nR = x_nR at *
        generalize y_sC : @sC = x_sC at *
        generalize y_iC : @iC = x_iC at *
        generalize y_nS : @nS = x_nS at *
        generalize y_nI : @nI = x_nI at *
        (repeat' first | ((first | with_reducible refine tr_cut (fun h => ?_) (fun h => ?_) | refine aw_condj (by cbv) (fun h => ?_) (fun h => ?_)) <;> (try simp (disch := omega) only [hj, std, cmpI, cmpB, satB, Bool.not_eq_true, Bool.not_eq_false, decide_eq_true_eq, decide_eq_false_iff_not, beq_iff_eq, bne_iff_ne, bne_eq_false_iff_eq, beq_eq_false_iff_ne, ne_eq, reduceCtorEq, not_true_eq_false, not_false_eq_true, pl0, if_true, cmpS_eq, cmpS_neq, Bool.not_eq_eq_eq_not, Bool.not_true, Bool.not_false, Bool.not_eq_true', ite0, e1, add64, sub64] at h) <;> (try (exfalso; omega))) | (with_reducible refine tr_alt (fun h => ?_) ?_ <;> (try (exfalso; omega))) | (with_reducible first | refine tr_ob ?_ ?_ | refine tr_done ?_) | (refine aw_tr hj tok book0 (by cbv) ?_) | (refine aw_seq fun K hK => ?_) | (refine aw_tr1 hj tok book0 (by cbv) ?_) | (refine aw_skip ?_) | (refine aw_block ?_) | (refine aw_exit ?_) | (refine aw_ret ⟨.inr rfl, ret_okj hj (by cbv) ?_ ?_⟩) | (refine aw_ret ?_) | (with_reducible first | refine th_n ?_ | refine th_r ?_ | refine th_x ?_ | refine blk_n ?_ | refine blk_r ?_ | refine blk_x ?_ | refine blk_y rfl ?_) | (refine ⟨.inr rfl, ret_okj hj (by cbv) ?_ ?_⟩) | (refine ⟨.inl rfl, ret_okj hj (by cbv) ?_ ?_⟩) | (with_reducible first | refine ⟨(_, _), by cbv, ?_, ?_⟩ | refine ⟨_, by cbv, ?_, ?_⟩) | (with_reducible apply_assumption -symm -exfalso only [*]))
        all_goals ((try subst y_ordG); (try subst y_rC); (try subst y_nR); (try subst y_sC); (try subst y_iC); (try subst y_nS); (try subst y_nI))
        all_goals (try (repeat' first | with_reducible exact obl0 | (with_reducible refine obl1 ?_ ?_)))
        all_goals (try first | with_reducible exact True.intro | ((first | refine ob_le hj ?_ | refine ob_lei hj ?_ | refine ob_inb hj ?_ | refine ob_pos hj ?_ | refine ob_ne0 hj ?_ | refine ob_eqb hj ?_); (first | rfl | first | omega | (simp only [hj, std]; split <;> omega) | (simp (disch := omega) only [hj, std, cmpI, cmpB, satB, add64, sub64, ite0, pl0, pl2, pl3, sb0, if_true, if_false, eq_self, hrl, e1, e5] <;> omega) | (simp (disch := omega) [hj, std, cmpI, cmpB, satB, add64, sub64, ite0, pl0, pl2, pl3, sb0, if_true, if_false, eq_self, hrl, e1, e5] <;> omega))) | ((refine ob_ok hj ?_; simp only [hj, std, ite0]; first | exact o0 | exact o1)) | ((simp (disch := omega) only [hj, std, add64, ite0]; first | omega | exact ⟨by omega, by omega, by omega, by omega, hout⟩)))
    · have hin := hyes (fun _ => by omega)
      clear hno hyes hI
      refine aw_lpj hj [(1, .keep), (3, .keep), (4, .keep), (5, .keep)] [1] (fun (⟨k, m⟩ : Int × Int) => stOf 75 [(1, .one (.ptr 1 0)), (3, .one (.c (vI m))), (4, .one (.c (vI i))), (5, .one (.c (vI k)))] [(1, .box [.st (.sl sn sc), .st (.sl tn tc), .st (.sl rn rc)])]) (fun (⟨k, m⟩ : Int × Int) => nI (rAt rs i.toNat).2 - k.toNat) (fun (⟨k, m⟩ : Int × Int) => 0 ≤ k ∧ k ≤ nI (rAt rs i.toNat).2 ∧ 0 ≤ m ∧ m ≤ i * 1000000 + k ∧ ordG ts rs = decide (ordIn rs i k m.toNat = some ts.length)) ((0, n)) (by generalize @ordG = x_ordG; generalize @rC = x_rC; generalize @nR = x_nR; generalize @sC = x_sC; generalize @iC = x_iC; generalize @nS = x_nS; generalize @nI = x_nI; cbv) ?_ (fun ⟨k, m⟩ hI => ?_)
      · exact ⟨by omega, by omega, by omega, by omega, hin⟩
      obtain ⟨k1, k2, m1, m2, hk⟩ := hI
      have e4 : gi (cellAt (gc (cellAt rc (i.toNat * 2 + 1))) k.toNat) = iAt (rAt rs i.toNat).2 k.toNat := by rw [e2]; exact gi_iC _ _
      have e5 : (gc (cellAt rc (i.toNat * 2 + 1))).length = nI (rAt rs i.toNat).2 := by rw [e2]; exact iC_len _
      have hRm := rAt_mem rs i i1 (by rw [nR_eq]; omega)
      rcases Decidable.em (k < (nI (rAt rs i.toNat).2 : Int)) with hkl | hkl
      · have o4 : okK (.int .i64) (cellAt (gc (cellAt rc (i.toNat * 2 + 1))) k.toNat) := by rw [e2]; exact ok_iC (by rw [nI_eq] at hkl; omega)
        have hs := hsy _ hRm (iAt (rAt rs i.toNat).2 k.toNat) (iAt_mem _ k k1 hkl)
        have hd2 := idrop_step (rAt rs i.toNat).2 k k1 hkl
        have hk' := hk
        unfold ordIn at hk'
        rw [hd2, ordGo_cons] at hk'
        have hin1 : ∀ m' : Nat, ordIn rs i (k + 1) m' = match ordGo m' ((rAt rs i.toNat).2.drop (k + 1).toNat) with | none => none | some m => ordF (rAt rs i.toNat).1 m (rs.drop (i + 1).toNat) := fun _ => rfl
        generalize iAt (rAt rs i.toNat).2 k.toNat = s at *
        have es : s < 0 → arithI .sub .i64 (-1) s = -1 - s := fun h => sub64 (by omega) (by omega)
        have hbad : s < 0 → -1 - s > m → ordG ts rs = false := fun h1 h2 => by rw [hk', if_pos ⟨h1, by omega⟩]; rfl
        have hnx1 : s < 0 → -1 - s = m → ordG ts rs = decide (ordIn rs i (k + 1) (m + 1).toNat = some ts.length) := fun h1 h2 => by
          rw [hk', if_neg (by omega), if_pos (by omega), hin1, show (m + 1).toNat = m.toNat + 1 by omega]
        have hnx0 : (s < 0 → ¬ -1 - s > m) → (s < 0 → ¬ -1 - s = m) → ordG ts rs = decide (ordIn rs i (k + 1) m.toNat = some ts.length) := fun h1 h2 => by
          rw [hk', if_neg (by rintro ⟨a, b⟩; exact h1 a (by omega)), if_neg (by intro a; exact h2 (by omega) (by omega)), hin1]
        generalize y_ordG : @ordG = x_ordG at *
        generalize y_rC : @rC = x_rC at *
        generalize y_nR : @nR = x_nR at *
        generalize y_sC : @sC = x_sC at *
        generalize y_iC : @iC = x_iC at *
        generalize y_nS : @nS = x_nS at *
        generalize y_nI : @nI = x_nI at *
        (repeat' first | ((first | with_reducible refine tr_cut (fun h => ?_) (fun h => ?_) | refine aw_condj (by cbv) (fun h => ?_) (fun h => ?_)) <;> (try simp (disch := omega) only [hj, std, cmpI, cmpB, satB, Bool.not_eq_true, Bool.not_eq_false, decide_eq_true_eq, decide_eq_false_iff_not, beq_iff_eq, bne_iff_ne, bne_eq_false_iff_eq, beq_eq_false_iff_ne, ne_eq, reduceCtorEq, not_true_eq_false, not_false_eq_true, pl0, if_true, cmpS_eq, cmpS_neq, Bool.not_eq_eq_eq_not, Bool.not_true, Bool.not_false, Bool.not_eq_true', ite0, e1, e4, es, add64, sub64] at h) <;> (try (exfalso; omega))) | (with_reducible refine tr_alt (fun h => ?_) ?_ <;> (try (exfalso; omega))) | (with_reducible first | refine tr_ob ?_ ?_ | refine tr_done ?_) | (refine aw_tr hj tok book0 (by cbv) ?_) | (refine aw_seq fun K hK => ?_) | (refine aw_tr1 hj tok book0 (by cbv) ?_) | (refine aw_skip ?_) | (refine aw_block ?_) | (refine aw_exit ?_) | (refine aw_ret ⟨.inr rfl, ret_okj hj (by cbv) ?_ ?_⟩) | (refine aw_ret ?_) | (with_reducible first | refine th_n ?_ | refine th_r ?_ | refine th_x ?_ | refine blk_n ?_ | refine blk_r ?_ | refine blk_x ?_ | refine blk_y rfl ?_) | (refine ⟨.inr rfl, ret_okj hj (by cbv) ?_ ?_⟩) | (refine ⟨.inl rfl, ret_okj hj (by cbv) ?_ ?_⟩) | (with_reducible first | refine ⟨(_, _), by cbv, ?_, ?_⟩ | refine ⟨_, by cbv, ?_, ?_⟩) | (with_reducible apply_assumption -symm -exfalso only [*]))
        all_goals ((try subst y_ordG); (try subst y_rC); (try subst y_nR); (try subst y_sC); (try subst y_iC); (try subst y_nS); (try subst y_nI))
        all_goals (try (repeat' first | with_reducible exact obl0 | (with_reducible refine obl1 ?_ ?_)))
        all_goals (try first | with_reducible exact True.intro | ((first | refine ob_le hj ?_ | refine ob_lei hj ?_ | refine ob_inb hj ?_ | refine ob_pos hj ?_ | refine ob_ne0 hj ?_ | refine ob_eqb hj ?_); (first | rfl | first | omega | (simp only [hj, std]; split <;> omega) | (simp (disch := omega) only [hj, std, cmpI, cmpB, satB, add64, sub64, ite0, pl0, pl2, pl3, sb0, if_true, if_false, eq_self, hrl, e1, e4, e5, es] <;> omega) | (simp (disch := omega) [hj, std, cmpI, cmpB, satB, add64, sub64, ite0, pl0, pl2, pl3, sb0, if_true, if_false, eq_self, hrl, e1, e4, e5, es] <;> omega))) | ((refine ob_ok hj ?_; simp only [hj, std, ite0]; first | exact o0 | exact o1 | exact o4)) | ((refine r1b ?_; exact hbad (by omega) (by omega))) | ((simp (disch := omega) only [hj, std, add64, ite0, e4, es]; first | omega | exact ⟨by omega, by omega, by omega, by omega, hnx1 (by omega) (by omega)⟩ | exact ⟨by omega, by omega, by omega, by omega, hnx0 (by omega) (by omega)⟩)))
      · have hout : ordG ts rs = decide (ordF (prevL rs (i + 1)) m.toNat (rs.drop (i + 1).toNat) = some ts.length) := by
          rw [hk]
          unfold ordIn
          rw [List.drop_eq_nil_of_le (by rw [nI_eq] at hkl; omega)]
          unfold prevL
          rw [if_neg (by omega), show (i + 1).toNat - 1 = i.toNat by omega]; rfl
        generalize y_ordG : @ordG = x_ordG at *
        generalize y_rC : @rC = x_rC at *
        generalize y_nR : @nR = x_nR at *
        generalize y_sC : @sC = x_sC at *
        generalize y_iC : @iC = x_iC at *
        generalize y_nS : @nS = x_nS at *
        generalize y_nI : @nI = x_nI at *
        (repeat' first | ((first | with_reducible refine tr_cut (fun h => ?_) (fun h => ?_) | refine aw_condj (by cbv) (fun h => ?_) (fun h => ?_)) <;> (try simp (disch := omega) only [hj, std, cmpI, cmpB, satB, Bool.not_eq_true, Bool.not_eq_false, decide_eq_true_eq, decide_eq_false_iff_not, beq_iff_eq, bne_iff_ne, bne_eq_false_iff_eq, beq_eq_false_iff_ne, ne_eq, reduceCtorEq, not_true_eq_false, not_false_eq_true, pl0, if_true, cmpS_eq, cmpS_neq, Bool.not_eq_eq_eq_not, Bool.not_true, Bool.not_false, Bool.not_eq_true', ite0, e1, add64, sub64] at h) <;> (try (exfalso; omega))) | (with_reducible refine tr_alt (fun h => ?_) ?_ <;> (try (exfalso; omega))) | (with_reducible first | refine tr_ob ?_ ?_ | refine tr_done ?_) | (refine aw_tr hj tok book0 (by cbv) ?_) | (refine aw_seq fun K hK => ?_) | (refine aw_tr1 hj tok book0 (by cbv) ?_) | (refine aw_skip ?_) | (refine aw_block ?_) | (refine aw_exit ?_) | (refine aw_ret ⟨.inr rfl, ret_okj hj (by cbv) ?_ ?_⟩) | (refine aw_ret ?_) | (with_reducible first | refine th_n ?_ | refine th_r ?_ | refine th_x ?_ | refine blk_n ?_ | refine blk_r ?_ | refine blk_x ?_ | refine blk_y rfl ?_) | (refine ⟨.inr rfl, ret_okj hj (by cbv) ?_ ?_⟩) | (refine ⟨.inl rfl, ret_okj hj (by cbv) ?_ ?_⟩) | (with_reducible first | refine ⟨(_, _), by cbv, ?_, ?_⟩ | refine ⟨_, by cbv, ?_, ?_⟩) | (with_reducible apply_assumption -symm -exfalso only [*]))
        all_goals ((try subst y_ordG); (try subst y_rC); (try subst y_nR); (try subst y_sC); (try subst y_iC); (try subst y_nS); (try subst y_nI))
        all_goals (try (repeat' first | with_reducible exact obl0 | (with_reducible refine obl1 ?_ ?_)))
        all_goals (try first | with_reducible exact True.intro | ((first | refine ob_le hj ?_ | refine ob_lei hj ?_ | refine ob_inb hj ?_ | refine ob_pos hj ?_ | refine ob_ne0 hj ?_ | refine ob_eqb hj ?_); (first | rfl | first | omega | (simp only [hj, std]; split <;> omega) | (simp (disch := omega) only [hj, std, cmpI, cmpB, satB, add64, sub64, ite0, pl0, pl2, pl3, sb0, if_true, if_false, eq_self, hrl, e1, e5] <;> omega) | (simp (disch := omega) [hj, std, cmpI, cmpB, satB, add64, sub64, ite0, pl0, pl2, pl3, sb0, if_true, if_false, eq_self, hrl, e1, e5] <;> omega))) | ((refine ob_ok hj ?_; simp only [hj, std, ite0]; first | exact o0 | exact o1)) | ((simp (disch := omega) only [hj, std, add64, ite0]; first | omega | exact ⟨by omega, by omega, by omega, by omega, hout⟩)))
  · have hfin : ordG ts rs = decide (n = (tn : Int)) := by
      rw [hI, List.drop_eq_nil_of_le (by omega)]
      show decide (some n.toNat = some ts.length) = _
      rw [Bool.eq_iff_iff, decide_eq_true_eq, decide_eq_true_eq, Option.some.injEq]
      omega
    generalize y_ordG : @ordG = x_ordG at *
    generalize y_rC : @rC = x_rC at *
    generalize y_nR : @nR = x_nR at *
    generalize y_sC : @sC = x_sC at *
    generalize y_iC : @iC = x_iC at *
    generalize y_nS : @nS = x_nS at *
    generalize y_nI : @nI = x_nI at *
    (repeat' first | ((first | with_reducible refine tr_cut (fun h => ?_) (fun h => ?_) | refine aw_condj (by cbv) (fun h => ?_) (fun h => ?_)) <;> (try simp (disch := omega) only [hj, std, cmpI, cmpB, satB, Bool.not_eq_true, Bool.not_eq_false, decide_eq_true_eq, decide_eq_false_iff_not, beq_iff_eq, bne_iff_ne, bne_eq_false_iff_eq, beq_eq_false_iff_ne, ne_eq, reduceCtorEq, not_true_eq_false, not_false_eq_true, pl0, if_true, cmpS_eq, cmpS_neq, Bool.not_eq_eq_eq_not, Bool.not_true, Bool.not_false, Bool.not_eq_true', add64, sub64] at h) <;> (try (exfalso; omega))) | (with_reducible refine tr_alt (fun h => ?_) ?_ <;> (try (exfalso; omega))) | (with_reducible first | refine tr_ob ?_ ?_ | refine tr_done ?_) | (refine aw_tr hj tok book0 (by cbv) ?_) | (refine aw_seq fun K hK => ?_) | (refine aw_tr1 hj tok book0 (by cbv) ?_) | (refine aw_skip ?_) | (refine aw_block ?_) | (refine aw_exit ?_) | (refine aw_ret ⟨.inr rfl, ret_okj hj (by cbv) ?_ ?_⟩) | (refine aw_ret ?_) | (with_reducible first | refine th_n ?_ | refine th_r ?_ | refine th_x ?_ | refine blk_n ?_ | refine blk_r ?_ | refine blk_x ?_ | refine blk_y rfl ?_) | (refine ⟨.inr rfl, ret_okj hj (by cbv) ?_ ?_⟩) | (refine ⟨.inl rfl, ret_okj hj (by cbv) ?_ ?_⟩) | (with_reducible first | refine ⟨(_, _), by cbv, ?_, ?_⟩ | refine ⟨_, by cbv, ?_, ?_⟩) | (with_reducible apply_assumption -symm -exfalso only [*]))
    all_goals ((try subst y_ordG); (try subst y_rC); (try subst y_nR); (try subst y_sC); (try subst y_iC); (try subst y_nS); (try subst y_nI))
    all_goals (try (repeat' first | with_reducible exact obl0 | with_reducible refine obl1 ?_ ?_))
    all_goals (try first | with_reducible exact True.intro | ((first | refine ob_le hj ?_ | refine ob_lei hj ?_ | refine ob_inb hj ?_ | refine ob_pos hj ?_ | refine ob_ne0 hj ?_ | refine ob_eqb hj ?_); (first | rfl | first | omega | (simp only [hj, std]; split <;> omega) | (simp (disch := omega) only [hj, std, cmpI, cmpB, satB, add64, sub64, ite0, pl0, pl2, pl3, sb0, if_true, if_false, eq_self, hrl] <;> omega) | (simp (disch := omega) [hj, std, cmpI, cmpB, satB, add64, sub64, ite0, pl0, pl2, pl3, sb0, if_true, if_false, eq_self, hrl] <;> omega))) | ((refine r1b ?_; rw [hfin, hj]; rfl)))
end Go.Proofs.Ytgimfjmigoibgaa.A
