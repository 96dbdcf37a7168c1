/- What the laws of this seat need, part 5. -/
import Derived.Test.YtcpcghnpoekhpaaMz4
import Derived.Maps.Range
import Derived.Lib.Hide
/- Tries: rows: few, rule; words: number, Less, Has, Put. -/
set_option linter.unusedSimpArgs false
set_option linter.unusedVariables false
set_option maxRecDepth 100000
set_option maxHeartbeats 4000000
namespace Go.Proofs.Ytcpcghnpoekhpaa.A
open Go
def fewR (l : List Rw) : Bool := decide (l.length ≤ 30 ∧ ∀ x ∈ l, x.2.1.size ≤ 6 ∧ 0 ≤ x.2.2)
theorem drop_rw {l : List Rw} {k : Nat} (h : k < l.length) : l.drop k = rwAt l k :: l.drop (k + 1) := by rw [rwAt_get h, List.drop_eq_getElem_cons h]
theorem fewR_iff {l : List Rw} : fewR l = true ↔ l.length ≤ 30 ∧ ∀ k : Nat, k < l.length → (rwAt l k).2.1.size ≤ 6 ∧ 0 ≤ (rwAt l k).2.2 := by
 unfold fewR
 rw [decide_eq_true_eq]
 constructor
 ·rintro ⟨h1, h2⟩
  exact ⟨h1, fun k hk => by rw [rwAt_get hk]; exact h2 _ (List.getElem_mem hk)⟩
 ·rintro ⟨h1, h2⟩
  exact ⟨h1, fun x hx => by obtain ⟨k, hk, rfl⟩ := List.getElem_of_mem hx; have := h2 k hk; rwa [rwAt_get hk] at this⟩
theorem pc_few24 (l : List Rw) (hl : l.length ≤ 4398046510976) : PC Try.prog T 6 [.v false [.sl (nRw l) (rwC l)]] (ret1 (.st (vB (fewR l)))) [] := by
 have nl := nRw_eq l
 have ll := rwC_len l
 have ha := rwC_at l
 have hno : (¬ l.length ≤ 30 ∨ ∃ k : Nat, k < l.length ∧ (¬ (rwAt l k).2.1.size ≤ 6 ∨ (rwAt l k).2.2 < 0)) → fewR l = false := fun h => by
  rw [← Bool.not_eq_true, fewR_iff]
  rintro ⟨h1, h2⟩
  rcases h with h | ⟨k, hk, h⟩
  ·exact h h1
  ·have := h2 k hk; omega
 have hyes : l.length ≤ 30 → (∀ k : Nat, k < l.length → (rwAt l k).2.1.size ≤ 6 ∧ 0 ≤ (rwAt l k).2.2) → fewR l = true := fun h1 h2 => fewR_iff.2 ⟨h1, h2⟩
 generalize fewR l = R at *
 refine pc_of tok Try.func6 rfl (by rfl) ?_
 obtain ⟨j, hj⟩ : ∃ j : J, j = std Try.prog T := ⟨_, rfl⟩
 have hm : Try.prog.follows .mixedOrders = true := by kernel_rfl
 generalize y_rwC : @rwC = x_rwC at *
 generalize y_nRw : @nRw = x_nRw at *
 (repeat' first | ((first | with_reducible refine tr_cut (fun h => ?_) (fun h => ?_) | refine aw_condj (by cbv) (fun h => ?_) (fun h => ?_)) <;> (try simp (disch := omega) only [hj, std, cmpI, cmpB, satB, Bool.not_eq_true, Bool.not_eq_false, decide_eq_true_eq, decide_eq_false_iff_not, beq_iff_eq, bne_iff_ne, bne_eq_false_iff_eq, beq_eq_false_iff_ne, ne_eq, reduceCtorEq, not_true_eq_false, not_false_eq_true, pl0, if_true, cmpS_eq, cmpS_neq, Bool.not_eq_eq_eq_not, Bool.not_true, Bool.not_false, Bool.not_eq_true', add64, sub64] at h) <;> (try (exfalso; omega))) | (with_reducible refine tr_alt (fun h => ?_) ?_ <;> (try (exfalso; omega))) | (with_reducible first | refine tr_ob ?_ ?_ | refine tr_done ?_) | (refine aw_tr hj tok book0 (by cbv) ?_) | (refine aw_seq fun K hK => ?_) | (refine aw_tr1 hj tok book0 (by cbv) ?_) | (refine aw_skip ?_) | (refine aw_block ?_) | (refine aw_exit ?_) | (refine aw_ret ⟨.inr rfl, ret_okj hj (by cbv) ?_ ?_⟩) | (refine aw_ret ?_) | (with_reducible first | refine th_n ?_ | refine th_r ?_ | refine th_x ?_ | refine blk_n ?_ | refine blk_r ?_ | refine blk_x ?_ | refine blk_y rfl ?_) | (refine ⟨.inr rfl, ret_okj hj (by cbv) ?_ ?_⟩) | (refine ⟨.inl rfl, ret_okj hj (by cbv) ?_ ?_⟩) | (with_reducible refine ⟨_, by cbv, ?_, ?_⟩) | (with_reducible apply_assumption -symm -exfalso only [*]))
 all_goals ((try subst y_rwC); (try subst y_nRw))
 all_goals (try (repeat' first | with_reducible exact obl0 | (with_reducible refine obl1 ?_ ?_)))
 all_goals (try first | with_reducible exact True.intro | ((first | refine ob_le hj ?_ | refine ob_lei hj ?_ | refine ob_inb hj ?_ | refine ob_pos hj ?_ | refine ob_ne0 hj ?_ | refine ob_eqb hj ?_); (first | rfl | first | omega | (simp only [hj, std]; split <;> omega) | (simp (disch := omega) only [hj, std, cmpI, cmpB, satB, add64, sub64, ite0, pl0, pl2, pl3, sb0, if_true, if_false, eq_self] <;> omega) | (simp (disch := omega) [hj, std, cmpI, cmpB, satB, add64, sub64, ite0, pl0, pl2, pl3, sb0, if_true, if_false, eq_self] <;> omega))) | ((rw [hno (.inl (by omega))]; exact rfl)))
 refine aw_lpj hj [(0, .keep), (3, .keep)] [] (fun (i : Int) => stOf 28 [(0, .one (.c (.sl (nRw l) (rwC l)))), (3, .one (.c (vI i)))] []) (fun (i : Int) => nRw l - i.toNat) (fun (i : Int) => 0 ≤ i ∧ i ≤ nRw l ∧ ∀ k : Nat, (k : Int) < i → (rwAt l k).2.1.size ≤ 6 ∧ 0 ≤ (rwAt l k).2.2) (0) (by generalize @rwC = x_rwC; generalize @nRw = x_nRw; cbv) ?_ (fun i hI => ?_)
 ·exact ⟨by omega, by omega, fun n h => by omega⟩
 obtain ⟨i1, i2, i3⟩ := hI
 rcases Decidable.em (i < (nRw l : Int)) with hi | hi
 rotate_left
 ·have hE := hyes (by omega) fun k hk => i3 k (by omega)
  generalize y_rwC : @rwC = x_rwC at *
  generalize y_nRw : @nRw = x_nRw at *
  (repeat' first | ((first | with_reducible refine tr_cut (fun h => ?_) (fun h => ?_) | refine aw_condj (by cbv) (fun h => ?_) (fun h => ?_)) <;> (try simp (disch := omega) only [hj, std, cmpI, cmpB, satB, Bool.not_eq_true, Bool.not_eq_false, decide_eq_true_eq, decide_eq_false_iff_not, beq_iff_eq, bne_iff_ne, bne_eq_false_iff_eq, beq_eq_false_iff_ne, ne_eq, reduceCtorEq, not_true_eq_false, not_false_eq_true, pl0, if_true, cmpS_eq, cmpS_neq, Bool.not_eq_eq_eq_not, Bool.not_true, Bool.not_false, Bool.not_eq_true', add64, sub64] at h) <;> (try (exfalso; omega))) | (with_reducible refine tr_alt (fun h => ?_) ?_ <;> (try (exfalso; omega))) | (with_reducible first | refine tr_ob ?_ ?_ | refine tr_done ?_) | (refine aw_tr hj tok book0 (by cbv) ?_) | (refine aw_seq fun K hK => ?_) | (refine aw_tr1 hj tok book0 (by cbv) ?_) | (refine aw_skip ?_) | (refine aw_block ?_) | (refine aw_exit ?_) | (refine aw_ret ⟨.inr rfl, ret_okj hj (by cbv) ?_ ?_⟩) | (refine aw_ret ?_) | (with_reducible first | refine th_n ?_ | refine th_r ?_ | refine th_x ?_ | refine blk_n ?_ | refine blk_r ?_ | refine blk_x ?_ | refine blk_y rfl ?_) | (refine ⟨.inr rfl, ret_okj hj (by cbv) ?_ ?_⟩) | (refine ⟨.inl rfl, ret_okj hj (by cbv) ?_ ?_⟩) | (with_reducible refine ⟨_, by cbv, ?_, ?_⟩) | (with_reducible apply_assumption -symm -exfalso only [*]))
  all_goals ((try subst y_rwC); (try subst y_nRw))
  all_goals (try (repeat' first | with_reducible exact obl0 | (with_reducible refine obl1 ?_ ?_)))
  all_goals (try first | with_reducible exact True.intro | ((first | refine ob_le hj ?_ | refine ob_lei hj ?_ | refine ob_inb hj ?_ | refine ob_pos hj ?_ | refine ob_ne0 hj ?_ | refine ob_eqb hj ?_); (first | rfl | first | omega | (simp only [hj, std]; split <;> omega) | (simp (disch := omega) only [hj, std, cmpI, cmpB, satB, add64, sub64, ite0, pl0, pl2, pl3, sb0, if_true, if_false, eq_self] <;> omega) | (simp (disch := omega) [hj, std, cmpI, cmpB, satB, add64, sub64, ite0, pl0, pl2, pl3, sb0, if_true, if_false, eq_self] <;> omega))) | ((rw [hE]; exact rfl)))
 obtain ⟨c0, c1, c2⟩ := ha i.toNat (by omega)
 have g1 : gs (cellAt (rwC l) (i.toNat * 3 + 1)) = (rwAt l i.toNat).2.1 := by rw [c1]; rfl
 have g2 : gi (cellAt (rwC l) (i.toNat * 3 + 2)) = (rwAt l i.toNat).2.2 := by rw [c2]; rfl
 have hn : (¬ (rwAt l i.toNat).2.1.size ≤ 6 ∨ (rwAt l i.toNat).2.2 < 0) → R = false := fun h => hno (.inr ⟨i.toNat, by omega, h⟩)
 have hy : ((rwAt l i.toNat).2.1.size ≤ 6 ∧ 0 ≤ (rwAt l i.toNat).2.2) → ∀ k : Nat, (k : Int) < i + 1 → (rwAt l k).2.1.size ≤ 6 ∧ 0 ≤ (rwAt l k).2.2 := fun h k hk => by
  by_cases e : (k : Int) < i
  ·exact i3 k e
  ·obtain rfl : k = i.toNat := by omega
   exact h
 generalize (rwAt l i.toNat).2.1 = ww at *
 generalize (rwAt l i.toNat).2.2 = rr at *
 generalize y_rwC : @rwC = x_rwC at *
 generalize y_nRw : @nRw = x_nRw at *
 (repeat' first | ((first | with_reducible refine tr_cut (fun h => ?_) (fun h => ?_) | refine aw_condj (by cbv) (fun h => ?_) (fun h => ?_)) <;> (try simp (disch := omega) only [hj, std, cmpI, cmpB, satB, Bool.not_eq_true, Bool.not_eq_false, decide_eq_true_eq, decide_eq_false_iff_not, beq_iff_eq, bne_iff_ne, bne_eq_false_iff_eq, beq_eq_false_iff_ne, ne_eq, reduceCtorEq, not_true_eq_false, not_false_eq_true, pl0, if_true, cmpS_eq, cmpS_neq, Bool.not_eq_eq_eq_not, Bool.not_true, Bool.not_false, Bool.not_eq_true', Int.ofNat_eq_natCast, g1, g2, ite0, add64, sub64] at h) <;> (try (exfalso; omega))) | (with_reducible refine tr_alt (fun h => ?_) ?_ <;> (try (exfalso; omega))) | (with_reducible first | refine tr_ob ?_ ?_ | refine tr_done ?_) | (refine aw_tr hj tok book0 (by cbv) ?_) | (refine aw_seq fun K hK => ?_) | (refine aw_tr1 hj tok book0 (by cbv) ?_) | (refine aw_skip ?_) | (refine aw_block ?_) | (refine aw_exit ?_) | (refine aw_ret ⟨.inr rfl, ret_okj hj (by cbv) ?_ ?_⟩) | (refine aw_ret ?_) | (with_reducible first | refine th_n ?_ | refine th_r ?_ | refine th_x ?_ | refine blk_n ?_ | refine blk_r ?_ | refine blk_x ?_ | refine blk_y rfl ?_) | (refine ⟨.inr rfl, ret_okj hj (by cbv) ?_ ?_⟩) | (refine ⟨.inl rfl, ret_okj hj (by cbv) ?_ ?_⟩) | (with_reducible refine ⟨_, by cbv, ?_, ?_⟩) | (with_reducible apply_assumption -symm -exfalso only [*]))
 all_goals ((try subst y_rwC); (try subst y_nRw))
 all_goals (try (repeat' first | with_reducible exact obl0 | with_reducible refine obl1 ?_ ?_))
 all_goals (try first | with_reducible exact True.intro | ((first | refine ob_le hj ?_ | refine ob_lei hj ?_ | refine ob_inb hj ?_ | refine ob_pos hj ?_ | refine ob_ne0 hj ?_ | refine ob_eqb hj ?_); (first | rfl | first | omega | (simp only [hj, std]; split <;> omega) | (simp (disch := omega) only [hj, std, cmpI, cmpB, satB, add64, sub64, ite0, pl0, pl2, pl3, sb0, if_true, if_false, eq_self, ll, g1, g2] <;> omega) | (simp (disch := omega) [hj, std, cmpI, cmpB, satB, add64, sub64, ite0, pl0, pl2, pl3, sb0, if_true, if_false, eq_self, ll, g1, g2] <;> omega))) | ((refine ob_ok hj ?_; simp only [hj, std, ite0]; first | exact ⟨_, c1⟩ | exact ⟨_, c2⟩)) | ((rw [hn (by omega)]; exact rfl)) | ((simp (disch := omega) only [hj, std, add64]; first | omega | exact ⟨by omega, by omega, hy (by omega)⟩)))
theorem pc_rule24 (l : List Rw) (w : ByteArray) (hl : l.length ≤ 1000000000) : PC Try.prog T 13 [.v false [.sl (nRw l) (rwC l)], .v false [vS w]] (ret1 (.st (vI (ruleL l w)))) [] := by
 have nl := nRw_eq l
 have ll := rwC_len l
 have ha := rwC_at l
 have hd := @drop_rw l
 refine pc_of tok Try.func13 rfl (by rfl) ?_
 obtain ⟨j, hj⟩ : ∃ j : J, j = std Try.prog T := ⟨_, rfl⟩
 have hm : Try.prog.follows .mixedOrders = true := by kernel_rfl
 generalize y_rwC : @rwC = x_rwC at *
 generalize y_nRw : @nRw = x_nRw at *
 (repeat' first | ((first | with_reducible refine tr_cut (fun h => ?_) (fun h => ?_) | refine aw_condj (by cbv) (fun h => ?_) (fun h => ?_)) <;> (try simp (disch := omega) only [hj, std, cmpI, cmpB, satB, Bool.not_eq_true, Bool.not_eq_false, decide_eq_true_eq, decide_eq_false_iff_not, beq_iff_eq, bne_iff_ne, bne_eq_false_iff_eq, beq_eq_false_iff_ne, ne_eq, reduceCtorEq, not_true_eq_false, not_false_eq_true, pl0, if_true, cmpS_eq, cmpS_neq, Bool.not_eq_eq_eq_not, Bool.not_true, Bool.not_false, Bool.not_eq_true', add64, sub64] at h) <;> (try (exfalso; omega))) | (with_reducible refine tr_alt (fun h => ?_) ?_ <;> (try (exfalso; omega))) | (with_reducible first | refine tr_ob ?_ ?_ | refine tr_done ?_) | (refine aw_tr hj tok book0 (by cbv) ?_) | (refine aw_seq fun K hK => ?_) | (refine aw_tr1 hj tok book0 (by cbv) ?_) | (refine aw_skip ?_) | (refine aw_block ?_) | (refine aw_exit ?_) | (refine aw_ret ⟨.inr rfl, ret_okj hj (by cbv) ?_ ?_⟩) | (refine aw_ret ?_) | (with_reducible first | refine th_n ?_ | refine th_r ?_ | refine th_x ?_ | refine blk_n ?_ | refine blk_r ?_ | refine blk_x ?_ | refine blk_y rfl ?_) | (refine ⟨.inr rfl, ret_okj hj (by cbv) ?_ ?_⟩) | (refine ⟨.inl rfl, ret_okj hj (by cbv) ?_ ?_⟩) | (with_reducible refine ⟨_, by cbv, ?_, ?_⟩) | (with_reducible apply_assumption -symm -exfalso only [*]))
 all_goals ((try subst y_rwC); (try subst y_nRw))
 all_goals (try (repeat' first | with_reducible exact obl0 | (with_reducible refine obl1 ?_ ?_)))
 all_goals (try first | with_reducible exact True.intro | ((first | refine ob_le hj ?_ | refine ob_lei hj ?_ | refine ob_inb hj ?_ | refine ob_pos hj ?_ | refine ob_ne0 hj ?_ | refine ob_eqb hj ?_); (first | rfl | first | omega | (simp only [hj, std]; split <;> omega) | (simp (disch := omega) only [hj, std, cmpI, cmpB, satB, add64, sub64, ite0, pl0, pl2, pl3, sb0, if_true, if_false, eq_self] <;> omega) | (simp (disch := omega) [hj, std, cmpI, cmpB, satB, add64, sub64, ite0, pl0, pl2, pl3, sb0, if_true, if_false, eq_self] <;> omega))))
 have hr0 : ruleL l w = ruleL (l.drop (0 : Int).toNat) w := rfl
 generalize ruleL l w = R at *
 refine aw_lpj hj [(0, .keep), (1, .keep), (5, .keep)] [] (fun (i : Int) => stOf 24 [(0, .one (.c (.sl (nRw l) (rwC l)))), (1, .one (.c (vS w))), (5, .one (.c (vI i)))] []) (fun (i : Int) => nRw l - i.toNat) (fun (i : Int) => 0 ≤ i ∧ i ≤ nRw l ∧ R = ruleL (l.drop i.toNat) w) (0) (by generalize @rwC = x_rwC; generalize @nRw = x_nRw; cbv) ?_ (fun i hI => ?_)
 ·exact ⟨by omega, by omega, hr0⟩
 obtain ⟨i1, i2, i3⟩ := hI
 rcases Decidable.em (i < (nRw l : Int)) with hi | hi
 rotate_left
 ·have hE : R = -1 := by rw [i3, List.drop_of_length_le (by omega)]; rfl
  generalize y_rwC : @rwC = x_rwC at *
  generalize y_nRw : @nRw = x_nRw at *
  (repeat' first | ((first | with_reducible refine tr_cut (fun h => ?_) (fun h => ?_) | refine aw_condj (by cbv) (fun h => ?_) (fun h => ?_)) <;> (try simp (disch := omega) only [hj, std, cmpI, cmpB, satB, Bool.not_eq_true, Bool.not_eq_false, decide_eq_true_eq, decide_eq_false_iff_not, beq_iff_eq, bne_iff_ne, bne_eq_false_iff_eq, beq_eq_false_iff_ne, ne_eq, reduceCtorEq, not_true_eq_false, not_false_eq_true, pl0, if_true, cmpS_eq, cmpS_neq, Bool.not_eq_eq_eq_not, Bool.not_true, Bool.not_false, Bool.not_eq_true', add64, sub64] at h) <;> (try (exfalso; omega))) | (with_reducible refine tr_alt (fun h => ?_) ?_ <;> (try (exfalso; omega))) | (with_reducible first | refine tr_ob ?_ ?_ | refine tr_done ?_) | (refine aw_tr hj tok book0 (by cbv) ?_) | (refine aw_seq fun K hK => ?_) | (refine aw_tr1 hj tok book0 (by cbv) ?_) | (refine aw_skip ?_) | (refine aw_block ?_) | (refine aw_exit ?_) | (refine aw_ret ⟨.inr rfl, ret_okj hj (by cbv) ?_ ?_⟩) | (refine aw_ret ?_) | (with_reducible first | refine th_n ?_ | refine th_r ?_ | refine th_x ?_ | refine blk_n ?_ | refine blk_r ?_ | refine blk_x ?_ | refine blk_y rfl ?_) | (refine ⟨.inr rfl, ret_okj hj (by cbv) ?_ ?_⟩) | (refine ⟨.inl rfl, ret_okj hj (by cbv) ?_ ?_⟩) | (with_reducible refine ⟨_, by cbv, ?_, ?_⟩) | (with_reducible apply_assumption -symm -exfalso only [*]))
  all_goals ((try subst y_rwC); (try subst y_nRw))
  all_goals (try (repeat' first | with_reducible exact obl0 | (with_reducible refine obl1 ?_ ?_)))
  all_goals (try first | with_reducible exact True.intro | ((first | refine ob_le hj ?_ | refine ob_lei hj ?_ | refine ob_inb hj ?_ | refine ob_pos hj ?_ | refine ob_ne0 hj ?_ | refine ob_eqb hj ?_); (first | rfl | first | omega | (simp only [hj, std]; split <;> omega) | (simp (disch := omega) only [hj, std, cmpI, cmpB, satB, add64, sub64, ite0, pl0, pl2, pl3, sb0, if_true, if_false, eq_self] <;> omega) | (simp (disch := omega) [hj, std, cmpI, cmpB, satB, add64, sub64, ite0, pl0, pl2, pl3, sb0, if_true, if_false, eq_self] <;> omega))) | ((rw [hE]; exact rfl)))
 obtain ⟨c0, c1, c2⟩ := ha i.toNat (by omega)
 have g1 : gs (cellAt (rwC l) (i.toNat * 3 + 1)) = (rwAt l i.toNat).2.1 := by rw [c1]; rfl
 have g2 : gi (cellAt (rwC l) (i.toNat * 3 + 2)) = (rwAt l i.toNat).2.2 := by rw [c2]; rfl
 have f1 : (i + 1).toNat = i.toNat + 1 := by omega
 have i4 : R = if (rwAt l i.toNat).2.1 = w then (rwAt l i.toNat).2.2 else ruleL (l.drop (i + 1).toNat) w := by rw [i3, hd (k := i.toNat) (by omega), f1]; rfl
 generalize (rwAt l i.toNat).2.1 = ww at *
 generalize (rwAt l i.toNat).2.2 = rr at *
 have hy : ww = w → R = rr := fun h => by rw [i4, if_pos h]
 have hn : ¬ ww = w → R = ruleL (l.drop (i + 1).toNat) w := fun h => by rw [i4, if_neg h]
 clear i3 i4 hr0
 generalize y_rwC : @rwC = x_rwC at *
 generalize y_nRw : @nRw = x_nRw at *
 (repeat' first | ((first | with_reducible refine tr_cut (fun h => ?_) (fun h => ?_) | refine aw_condj (by cbv) (fun h => ?_) (fun h => ?_)) <;> (try simp (disch := omega) only [hj, std, cmpI, cmpB, satB, Bool.not_eq_true, Bool.not_eq_false, decide_eq_true_eq, decide_eq_false_iff_not, beq_iff_eq, bne_iff_ne, bne_eq_false_iff_eq, beq_eq_false_iff_ne, ne_eq, reduceCtorEq, not_true_eq_false, not_false_eq_true, pl0, if_true, cmpS_eq, cmpS_neq, Bool.not_eq_eq_eq_not, Bool.not_true, Bool.not_false, Bool.not_eq_true', Int.ofNat_eq_natCast, g1, g2, ite0, add64, sub64] at h) <;> (try (exfalso; omega))) | (with_reducible refine tr_alt (fun h => ?_) ?_ <;> (try (exfalso; omega))) | (with_reducible first | refine tr_ob ?_ ?_ | refine tr_done ?_) | (refine aw_tr hj tok book0 (by cbv) ?_) | (refine aw_seq fun K hK => ?_) | (refine aw_tr1 hj tok book0 (by cbv) ?_) | (refine aw_skip ?_) | (refine aw_block ?_) | (refine aw_exit ?_) | (refine aw_ret ⟨.inr rfl, ret_okj hj (by cbv) ?_ ?_⟩) | (refine aw_ret ?_) | (with_reducible first | refine th_n ?_ | refine th_r ?_ | refine th_x ?_ | refine blk_n ?_ | refine blk_r ?_ | refine blk_x ?_ | refine blk_y rfl ?_) | (refine ⟨.inr rfl, ret_okj hj (by cbv) ?_ ?_⟩) | (refine ⟨.inl rfl, ret_okj hj (by cbv) ?_ ?_⟩) | (with_reducible refine ⟨_, by cbv, ?_, ?_⟩) | (with_reducible apply_assumption -symm -exfalso only [*]))
 all_goals ((try subst y_rwC); (try subst y_nRw))
 all_goals (try (repeat' first | with_reducible exact obl0 | with_reducible refine obl1 ?_ ?_))
 all_goals (try first | with_reducible exact True.intro | ((first | refine ob_le hj ?_ | refine ob_lei hj ?_ | refine ob_inb hj ?_ | refine ob_pos hj ?_ | refine ob_ne0 hj ?_ | refine ob_eqb hj ?_); (first | rfl | first | omega | (simp only [hj, std]; split <;> omega) | (simp (disch := omega) only [hj, std, cmpI, cmpB, satB, add64, sub64, ite0, pl0, pl2, pl3, sb0, if_true, if_false, eq_self, ll, g1, g2] <;> omega) | (simp (disch := omega) [hj, std, cmpI, cmpB, satB, add64, sub64, ite0, pl0, pl2, pl3, sb0, if_true, if_false, eq_self, ll, g1, g2] <;> omega))) | ((refine ob_ok hj ?_; simp only [hj, std, ite0]; first | exact ⟨_, c1⟩ | exact ⟨_, c2⟩)) | ((rw [hy (by assumption)]; refine r1i ?_; simp only [hj, std, ite0, c2]; rfl)) | ((simp (disch := omega) only [hj, std, add64]; first | omega | exact ⟨by omega, by omega, hn (by assumption)⟩)))
theorem pc_Less24 (a b : ByteArray) (ha : a.size < 4611686018427387904) (hb : b.size < 4611686018427387904) : PC Try.prog T 27 [.v false [vS a], .v false [vS b]] (ret1 (.st (vB (ltS a b)))) [] := by
 refine pc_of tok Try.func27 rfl (by rfl) ?_
 obtain ⟨j, hj⟩ : ∃ j : J, j = std Try.prog T := ⟨_, rfl⟩
 have hm : Try.prog.follows .mixedOrders = true := by kernel_rfl
 generalize y_ltS : @ltS = x_ltS at *
 (repeat' first | ((first | with_reducible refine tr_cut (fun h => ?_) (fun h => ?_) | refine aw_condj (by cbv) (fun h => ?_) (fun h => ?_)) <;> (try simp (disch := omega) only [hj, std, cmpI, cmpB, satB, Bool.not_eq_true, Bool.not_eq_false, decide_eq_true_eq, decide_eq_false_iff_not, beq_iff_eq, bne_iff_ne, bne_eq_false_iff_eq, beq_eq_false_iff_ne, ne_eq, reduceCtorEq, not_true_eq_false, not_false_eq_true, pl0, if_true, cmpS_eq, cmpS_neq, Bool.not_eq_eq_eq_not, Bool.not_true, Bool.not_false, Bool.not_eq_true', add64, sub64] at h) <;> (try (exfalso; omega))) | (with_reducible refine tr_alt (fun h => ?_) ?_ <;> (try (exfalso; omega))) | (with_reducible first | refine tr_ob ?_ ?_ | refine tr_done ?_) | (refine aw_tr hj tok book0 (by cbv) ?_) | (refine aw_seq fun K hK => ?_) | (refine aw_tr1 hj tok book0 (by cbv) ?_) | (refine aw_skip ?_) | (refine aw_block ?_) | (refine aw_exit ?_) | (refine aw_ret ⟨.inr rfl, ret_okj hj (by cbv) ?_ ?_⟩) | (refine aw_ret ?_) | (with_reducible first | refine th_n ?_ | refine th_r ?_ | refine th_x ?_ | refine blk_n ?_ | refine blk_r ?_ | refine blk_x ?_ | refine blk_y rfl ?_) | (refine ⟨.inr rfl, ret_okj hj (by cbv) ?_ ?_⟩) | (refine ⟨.inl rfl, ret_okj hj (by cbv) ?_ ?_⟩) | (with_reducible refine ⟨_, by cbv, ?_, ?_⟩) | (with_reducible apply_assumption -symm -exfalso only [*]))
 all_goals ((try subst y_ltS))
 refine aw_lpj hj [(0, .keep), (1, .keep), (5, .keep)] [] (fun (i : Int) => stOf 37 [(0, .one (.c (vS a))), (1, .one (.c (vS b))), (5, .one (.c (vI i)))] []) (fun (i : Int) => a.size - i.toNat) (fun (i : Int) => 0 ≤ i ∧ i ≤ a.size ∧ i ≤ b.size ∧ ∀ n : Nat, (n : Int) < i → bt a n = bt b n) (0) (by generalize @ltS = x_ltS; cbv) ?_ (fun i hI => ?_)
 ·exact ⟨by omega, by omega, by omega, fun n h => by omega⟩
 obtain ⟨i1, i2, i3, i4⟩ := hI
 generalize y_ltS : @ltS = x_ltS at *
 (repeat' first | ((first | with_reducible refine tr_cut (fun h => ?_) (fun h => ?_) | refine aw_condj (by cbv) (fun h => ?_) (fun h => ?_)) <;> (try simp (disch := omega) only [hj, std, cmpI, cmpB, satB, Bool.not_eq_true, Bool.not_eq_false, decide_eq_true_eq, decide_eq_false_iff_not, beq_iff_eq, bne_iff_ne, bne_eq_false_iff_eq, beq_eq_false_iff_ne, ne_eq, reduceCtorEq, not_true_eq_false, not_false_eq_true, pl0, if_true, cmpS_eq, cmpS_neq, Bool.not_eq_eq_eq_not, Bool.not_true, Bool.not_false, Bool.not_eq_true', add64, sub64] at h) <;> (try (exfalso; omega))) | (with_reducible refine tr_alt (fun h => ?_) ?_ <;> (try (exfalso; omega))) | (with_reducible first | refine tr_ob ?_ ?_ | refine tr_done ?_) | (refine aw_dr1 (id := 5) hj tok hm book0 true [(0, false), (1, false), (2, false), (3, false), (4, true), (5, true), (6, true), (7, true)] (by kernel_rfl) (by cbv) ?_) | (refine aw_dr (id := 5) hj tok hm book0 true [(0, false), (1, false), (2, false), (3, false), (4, true), (5, true), (6, true), (7, true)] (by kernel_rfl) (by cbv) ?_) | (refine aw_dr1 (id := 4) hj tok hm book0 true [(0, false), (1, false), (2, false), (3, false), (4, true), (5, true), (6, true)] (by kernel_rfl) (by cbv) ?_) | (refine aw_dr (id := 4) hj tok hm book0 true [(0, false), (1, false), (2, false), (3, false), (4, true), (5, true), (6, true)] (by kernel_rfl) (by cbv) ?_) | (refine aw_tr hj tok book0 (by cbv) ?_) | (refine aw_seq fun K hK => ?_) | (refine aw_tr1 hj tok book0 (by cbv) ?_) | (refine aw_skip ?_) | (refine aw_block ?_) | (refine aw_exit ?_) | (refine aw_ret ⟨.inr rfl, ret_okj hj (by cbv) ?_ ?_⟩) | (refine aw_ret ?_) | (with_reducible first | refine th_n ?_ | refine th_r ?_ | refine th_x ?_ | refine blk_n ?_ | refine blk_r ?_ | refine blk_x ?_ | refine blk_y rfl ?_) | (refine ⟨.inr rfl, ret_okj hj (by cbv) ?_ ?_⟩) | (refine ⟨.inl rfl, ret_okj hj (by cbv) ?_ ?_⟩) | (with_reducible refine ⟨_, by cbv, ?_, ?_⟩) | (with_reducible apply_assumption -symm -exfalso only [*]))
 all_goals ((try subst y_ltS))
 all_goals (try (repeat' first | with_reducible exact obl0 | with_reducible refine obl1 ?_ ?_))
 all_goals (try first | with_reducible exact True.intro | ((first | refine ob_le hj ?_ | refine ob_lei hj ?_ | refine ob_inb hj ?_ | refine ob_pos hj ?_ | refine ob_ne0 hj ?_ | refine ob_eqb hj ?_); (first | rfl | first | omega | (simp only [hj, std]; split <;> omega) | (simp (disch := omega) only [hj, std, cmpI, cmpB, satB, add64, sub64, ite0, pl0, pl2, pl3, sb0, if_true, if_false, eq_self] <;> omega) | (simp (disch := omega) [hj, std, cmpI, cmpB, satB, add64, sub64, ite0, pl0, pl2, pl3, sb0, if_true, if_false, eq_self] <;> omega))) | ((refine r1b ?_; rw [ltS_at i1 (by assumption) (by assumption) i4 (by assumption)]; simp [hj, std, cmpI])) | ((refine r1b ?_; rw [ltS_fin i1 i2 i3 (by omega) i4]; simp [hj, std, cmpI])) | ((simp (disch := omega) only [hj, std, add64]; first | omega | (refine ⟨by omega, by omega, by omega, fun n hn => ?_⟩; by_cases e : (n : Int) < i; exact i4 n e; obtain rfl : n = i.toNat := (by omega); have q := ‹((bt a _ : Nat) : Int) = ((bt b _ : Nat) : Int)›; omega))))
theorem pc_Has24 (l : List ByteArray) (w : ByteArray) (hl : nS l < 4611686018427387904) : PC Try.prog T 38 [.v false [(C.sl (nS l) (sC l))], .v false [vS w]] (ret1 (.st (vB (hasS l w)))) [] := by
 refine pc_of tok Try.func38 rfl (by rfl) ?_
 obtain ⟨j, hj⟩ : ∃ j : J, j = std Try.prog T := ⟨_, rfl⟩
 have hm : Try.prog.follows .mixedOrders = true := by kernel_rfl
 generalize y_sC : @sC = x_sC at *
 generalize y_nS : @nS = x_nS at *
 generalize y_hasS : @hasS = x_hasS at *
 (repeat' first | ((first | with_reducible refine tr_cut (fun h => ?_) (fun h => ?_) | refine aw_condj (by cbv) (fun h => ?_) (fun h => ?_)) <;> (try simp (disch := omega) only [hj, std, cmpI, cmpB, satB, Bool.not_eq_true, Bool.not_eq_false, decide_eq_true_eq, decide_eq_false_iff_not, beq_iff_eq, bne_iff_ne, bne_eq_false_iff_eq, beq_eq_false_iff_ne, ne_eq, reduceCtorEq, not_true_eq_false, not_false_eq_true, pl0, if_true, cmpS_eq, cmpS_neq, Bool.not_eq_eq_eq_not, Bool.not_true, Bool.not_false, Bool.not_eq_true', add64, sub64] at h) <;> (try (exfalso; omega))) | (with_reducible refine tr_alt (fun h => ?_) ?_ <;> (try (exfalso; omega))) | (with_reducible first | refine tr_ob ?_ ?_ | refine tr_done ?_) | (refine aw_tr hj tok book0 (by cbv) ?_) | (refine aw_seq fun K hK => ?_) | (refine aw_tr1 hj tok book0 (by cbv) ?_) | (refine aw_skip ?_) | (refine aw_block ?_) | (refine aw_exit ?_) | (refine aw_ret ⟨.inr rfl, ret_okj hj (by cbv) ?_ ?_⟩) | (refine aw_ret ?_) | (with_reducible first | refine th_n ?_ | refine th_r ?_ | refine th_x ?_ | refine blk_n ?_ | refine blk_r ?_ | refine blk_x ?_ | refine blk_y rfl ?_) | (refine ⟨.inr rfl, ret_okj hj (by cbv) ?_ ?_⟩) | (refine ⟨.inl rfl, ret_okj hj (by cbv) ?_ ?_⟩) | (with_reducible refine ⟨_, by cbv, ?_, ?_⟩) | (with_reducible apply_assumption -symm -exfalso only [*]))
 all_goals ((try subst y_sC); (try subst y_nS); (try subst y_hasS))
 refine aw_lpj hj [(0, .keep), (1, .keep), (5, .keep)] [] (fun (i : Int) => stOf 18 [(0, .one (.c ((C.sl (nS l) (sC l))))), (1, .one (.c (vS w))), (5, .one (.c (vI i)))] []) (fun (i : Int) => nS l - i.toNat) (fun (i : Int) => 0 ≤ i ∧ i ≤ nS l ∧ hasS l w = hasS (l.drop i.toNat) w) (0) (by generalize @sC = x_sC; generalize @nS = x_nS; generalize @hasS = x_hasS; cbv) ?_ (fun i hI => ?_)
 ·exact ⟨by omega, by omega, by simp⟩
 obtain ⟨i1, i2, i3⟩ := hI
 generalize y_sC : @sC = x_sC at *
 generalize y_nS : @nS = x_nS at *
 generalize y_hasS : @hasS = x_hasS at *
 (repeat' first | ((first | with_reducible refine tr_cut (fun h => ?_) (fun h => ?_) | refine aw_condj (by cbv) (fun h => ?_) (fun h => ?_)) <;> (try simp (disch := omega) only [hj, std, cmpI, cmpB, satB, Bool.not_eq_true, Bool.not_eq_false, decide_eq_true_eq, decide_eq_false_iff_not, beq_iff_eq, bne_iff_ne, bne_eq_false_iff_eq, beq_eq_false_iff_ne, ne_eq, reduceCtorEq, not_true_eq_false, not_false_eq_true, pl0, if_true, cmpS_eq, cmpS_neq, Bool.not_eq_eq_eq_not, Bool.not_true, Bool.not_false, Bool.not_eq_true', gs_sC, add64, sub64] at h) <;> (try (exfalso; omega))) | (with_reducible refine tr_alt (fun h => ?_) ?_ <;> (try (exfalso; omega))) | (with_reducible first | refine tr_ob ?_ ?_ | refine tr_done ?_) | (refine aw_tr hj tok book0 (by cbv) ?_) | (refine aw_seq fun K hK => ?_) | (refine aw_tr1 hj tok book0 (by cbv) ?_) | (refine aw_skip ?_) | (refine aw_block ?_) | (refine aw_exit ?_) | (refine aw_ret ⟨.inr rfl, ret_okj hj (by cbv) ?_ ?_⟩) | (refine aw_ret ?_) | (with_reducible first | refine th_n ?_ | refine th_r ?_ | refine th_x ?_ | refine blk_n ?_ | refine blk_r ?_ | refine blk_x ?_ | refine blk_y rfl ?_) | (refine ⟨.inr rfl, ret_okj hj (by cbv) ?_ ?_⟩) | (refine ⟨.inl rfl, ret_okj hj (by cbv) ?_ ?_⟩) | (with_reducible refine ⟨_, by cbv, ?_, ?_⟩) | (with_reducible apply_assumption -symm -exfalso only [*]))
 all_goals ((try subst y_sC); (try subst y_nS); (try subst y_hasS))
 all_goals (have nl := nS_eq l)
 all_goals (try have q := ‹gs (cellAt (sC l) _) = _›)
 all_goals (try have q := ‹¬ gs (cellAt (sC l) _) = _›)
 all_goals (try rw [gs_sC] at q)
 all_goals (try (repeat' first | with_reducible exact obl0 | with_reducible refine obl1 ?_ ?_))
 all_goals (try first | with_reducible exact True.intro | ((first | refine ob_le hj ?_ | refine ob_lei hj ?_ | refine ob_inb hj ?_ | refine ob_pos hj ?_ | refine ob_ne0 hj ?_ | refine ob_eqb hj ?_); (first | rfl | first | omega | (simp only [hj, std]; split <;> omega) | (simp (disch := omega) only [hj, std, cmpI, cmpB, satB, add64, sub64, ite0, pl0, pl2, pl3, sb0, if_true, if_false, eq_self, sC_len] <;> omega) | (simp (disch := omega) [hj, std, cmpI, cmpB, satB, add64, sub64, ite0, pl0, pl2, pl3, sb0, if_true, if_false, eq_self, sC_len] <;> omega))) | ((refine ob_ok hj ?_; simp only [hj, std, ite0]; exact ok_sC (by omega))) | ((refine r1b ?_; rw [i3, hasS_step l i i1 (by omega), q]; simp)) | ((refine r1b ?_; rw [i3, hasS_end l i (by omega)])) | ((simp (disch := omega) only [hj, std, add64]; first | omega | exact ⟨by omega, by omega, by rw [i3, hasS_step l i i1 (by omega)]; simp only [q, decide_false, Bool.false_or]⟩)))
end Go.Proofs.Ytcpcghnpoekhpaa.A
/- Tries: words put in order; the reference's fronts; the number of a front. -/
set_option linter.unusedSimpArgs false
set_option linter.unusedVariables false
set_option maxRecDepth 100000
set_option maxHeartbeats 4000000
namespace Go.Proofs.Ytcpcghnpoekhpaa.A
open Go
theorem small24 {l : List ByteArray} (h : ∀ s ∈ l, s.size ≤ 100) (i : Int) (h0 : 0 ≤ i) (h1 : i < nS l) : (gs (cellAt (sC l) i.toNat)).size ≤ 100 := by rw [gs_sC]; exact h _ (sAt_mem l i h0 h1)
theorem e_Less24 : Enters Try.prog 27 := enters Try.func27 (by kernel_rfl) (by kernel_rfl)
theorem c_Less24 {a b : ByteArray} (ha : a.size ≤ 100) (hb : b.size ≤ 100) : pc 27 [.v false [vS a], .v false [vS b]] (ret1 (.st (vB (ltS a b)))) := ⟨e_Less24, pc_Less24 a b (by omega) (by omega)⟩
def bookP24 (x_ltS : ByteArray → ByteArray → Bool) (x_hasS : List ByteArray → ByteArray → Bool) (x_strsOf : List C → List ByteArray) : Book := fun f xs => match f, xs with
 | 38, [.v false [.sl _ cs], .v false [.val (.string w)]] => some (ret1 (.st (vB (x_hasS (x_strsOf cs) w))))
 | 27, [.v false [.val (.string a)], .v false [.val (.string b)]] => some (ret1 (.st (vB (x_ltS a b))))
 | _, _ => none
theorem c_Has24 {l : List ByteArray} {w : ByteArray} (hl : nS l < 4611686018427387904) : pc 38 [.v false [(C.sl (nS l) (sC l))], .v false [vS w]] (ret1 (.st (vB (hasS (strsOf (sC l)) w)))) := by rw [strsOf_sC]; exact ⟨enters Try.func38 (by kernel_rfl) (by kernel_rfl), pc_Has24 l w hl⟩
theorem pc_Put24 (l : List ByteArray) (w : ByteArray) (hl : nS l ≤ 1000000) (hs : Set' l) (hsz : ∀ s ∈ l, s.size ≤ 100) (hw : w.size ≤ 100) : PC Try.prog T 26 [.v false [(C.sl (nS l) (sC l))], .v false [vS w]] (ret1 (.st ((C.sl (nS (putS l w)) (sC (putS l w)))))) [] := by
 refine pc_of tok Try.func26 rfl (by rfl) ?_
 obtain ⟨j, hj⟩ : ∃ j : J, j = std Try.prog T := ⟨_, rfl⟩
 have hm : Try.prog.follows .mixedOrders = true := by kernel_rfl
 generalize y_ltS : @ltS = x_ltS at *
 generalize y_hasS : @hasS = x_hasS at *
 generalize y_strsOf : @strsOf = x_strsOf at *
 generalize y_sC : @sC = x_sC at *
 generalize y_nS : @nS = x_nS at *
 (repeat' first | (refine aw_retz hj [(4, .fz)] (by cbv) ?_) | ((first | with_reducible refine tr_cut (fun h => ?_) (fun h => ?_) | refine aw_condj (by cbv) (fun h => ?_) (fun h => ?_)) <;> (try simp (disch := omega) only [hj, std, cmpI, cmpB, satB, Bool.not_eq_true, Bool.not_eq_false, decide_eq_true_eq, decide_eq_false_iff_not, beq_iff_eq, bne_iff_ne, bne_eq_false_iff_eq, beq_eq_false_iff_ne, ne_eq, reduceCtorEq, not_true_eq_false, not_false_eq_true, pl0, if_true, cmpS_eq, cmpS_neq, Bool.not_eq_eq_eq_not, Bool.not_true, Bool.not_false, Bool.not_eq_true', add64, sub64] at h) <;> (try (exfalso; omega))) | (with_reducible refine tr_alt (fun h => ?_) ?_ <;> (try (exfalso; omega))) | (with_reducible first | refine tr_ob ?_ ?_ | refine tr_done ?_) | (refine aw_tr hj tok (bookP24 x_ltS x_hasS x_strsOf) (by cbv) ?_) | (refine aw_seq fun K hK => ?_) | (refine aw_tr1 hj tok (bookP24 x_ltS x_hasS x_strsOf) (by cbv) ?_) | (refine aw_skip ?_) | (refine aw_block ?_) | (refine aw_exit ?_) | (refine aw_ret ⟨.inr rfl, ret_okj hj (by cbv) ?_ ?_⟩) | (refine aw_ret ?_) | (with_reducible first | refine th_n ?_ | refine th_r ?_ | refine th_x ?_ | refine blk_n ?_ | refine blk_r ?_ | refine blk_x ?_ | refine blk_y rfl ?_) | (refine ⟨.inr rfl, ret_okj hj (by cbv) ?_ ?_⟩) | (refine ⟨.inl rfl, ret_okj hj (by cbv) ?_ ?_⟩) | (with_reducible refine ⟨_, by cbv, ?_, ?_⟩) | (with_reducible apply_assumption -symm -exfalso only [*]))
 all_goals ((try subst y_ltS); (try subst y_hasS); (try subst y_strsOf); (try subst y_sC); (try subst y_nS))
 all_goals (try have q := ‹hasS (strsOf (sC l)) w = true›)
 all_goals (try rw [strsOf_sC, hasS_iff] at q)
 all_goals (try (repeat' first | with_reducible exact obl0 | (with_reducible refine obl1 ?_ ?_)))
 all_goals (try first | with_reducible exact True.intro | ((first | refine ob_pc hj ?_ | refine ob_pcn hj ?_); (try rw [hj]); first | exact c_Has24 (by omega)) | ((first | refine ob_le hj ?_ | refine ob_lei hj ?_ | refine ob_inb hj ?_ | refine ob_pos hj ?_ | refine ob_ne0 hj ?_ | refine ob_eqb hj ?_); (first | rfl | first | omega | (simp only [hj, std]; split <;> omega) | (simp (disch := omega) only [hj, std, cmpI, cmpB, satB, add64, sub64, ite0, pl0, pl2, pl3, sb0, if_true, if_false, eq_self] <;> omega) | (simp (disch := omega) [hj, std, cmpI, cmpB, satB, add64, sub64, ite0, pl0, pl2, pl3, sb0, if_true, if_false, eq_self] <;> omega))) | ((refine r1sl ?_ ?_ <;> rw [putS_in hs q])))
 all_goals (try have q := ‹hasS (strsOf (sC l)) w = false›)
 all_goals (try rw [strsOf_sC, hasS_not] at q)
 have e0 : j.ofNat (nS l) = (nS l : Int) := by rw [hj]; rfl
 have nl := nS_eq l
 refine aw_lpj hj [(0, .keep), (1, .keep), (5, .keep)] [] (fun (k : Int) => stOf 40 [(0, .one (.c ((C.sl (nS l) (sC l))))), (1, .one (.c (vS w))), (5, .one (.c (vI k)))] []) (fun (k : Int) => k.toNat) (fun (k : Int) => 0 ≤ k ∧ k ≤ nS l ∧ ∀ n : Nat, k ≤ n → n < nS l → ltS w (sAt l n) = true) ((j.ofNat (nS l))) (by generalize @ltS = x_ltS; generalize @hasS = x_hasS; generalize @strsOf = x_strsOf; generalize @sC = x_sC; generalize @nS = x_nS; cbv) ?_ (fun k hI => ?_)
 ·exact ⟨by omega, by omega, fun n h h2 => by omega⟩
 obtain ⟨k1, k2, k3⟩ := hI
 generalize y_ltS : @ltS = x_ltS at *
 generalize y_hasS : @hasS = x_hasS at *
 generalize y_strsOf : @strsOf = x_strsOf at *
 generalize y_sC : @sC = x_sC at *
 generalize y_nS : @nS = x_nS at *
 (repeat' first | (refine aw_retz hj [(4, .fz)] (by cbv) ?_) | ((first | with_reducible refine tr_cut (fun h => ?_) (fun h => ?_) | refine aw_condj (by cbv) (fun h => ?_) (fun h => ?_)) <;> (try simp (disch := omega) only [hj, std, cmpI, cmpB, satB, Bool.not_eq_true, Bool.not_eq_false, decide_eq_true_eq, decide_eq_false_iff_not, beq_iff_eq, bne_iff_ne, bne_eq_false_iff_eq, beq_eq_false_iff_ne, ne_eq, reduceCtorEq, not_true_eq_false, not_false_eq_true, pl0, if_true, cmpS_eq, cmpS_neq, Bool.not_eq_eq_eq_not, Bool.not_true, Bool.not_false, Bool.not_eq_true', gs_sC, add64, sub64] at h) <;> (try (exfalso; omega))) | (with_reducible refine tr_alt (fun h => ?_) ?_ <;> (try (exfalso; omega))) | (with_reducible first | refine tr_ob ?_ ?_ | refine tr_done ?_) | (refine aw_tr hj tok (bookP24 x_ltS x_hasS x_strsOf) (by cbv) ?_) | (refine aw_seq fun K hK => ?_) | (refine aw_tr1 hj tok (bookP24 x_ltS x_hasS x_strsOf) (by cbv) ?_) | (refine aw_skip ?_) | (refine aw_block ?_) | (refine aw_exit ?_) | (refine aw_ret ⟨.inr rfl, ret_okj hj (by cbv) ?_ ?_⟩) | (refine aw_ret ?_) | (with_reducible first | refine th_n ?_ | refine th_r ?_ | refine th_x ?_ | refine blk_n ?_ | refine blk_r ?_ | refine blk_x ?_ | refine blk_y rfl ?_) | (refine ⟨.inr rfl, ret_okj hj (by cbv) ?_ ?_⟩) | (refine ⟨.inl rfl, ret_okj hj (by cbv) ?_ ?_⟩) | (with_reducible refine ⟨_, by cbv, ?_, ?_⟩) | (with_reducible apply_assumption -symm -exfalso only [*]))
 all_goals ((try subst y_ltS); (try subst y_hasS); (try subst y_strsOf); (try subst y_sC); (try subst y_nS))
 all_goals (try have e9 : arithI .sub .i64 k 1 = k - 1 := sub64 (by omega) (by omega))
 all_goals (try have p := ‹ltS w _ = true›)
 all_goals (try have p := ‹ltS w _ = false›)
 all_goals (try rw [gs_sC] at p)
 all_goals (have hp : (k.toNat = 0 ∨ ltS w (sAt l (k.toNat - 1)) = false) → l.take k.toNat ++ [w] ++ l.drop k.toNat = putS l w := fun h1 => putS_at hs q (by omega) h1 fun n h2 h3 => k3 n (by omega) (by omega))
 all_goals (try have e8 := hp (.inl (by omega)))
 all_goals (try have e8 := hp (.inr (by rw [show k.toNat - 1 = (k - 1).toNat by omega]; exact p)))
 all_goals (have et : List.take (nS l) l = l := by rw [nl]; exact List.take_length)
 all_goals (try (repeat' first | with_reducible exact obl0 | with_reducible refine obl1 ?_ ?_))
 all_goals (try first | with_reducible exact True.intro | ((first | refine ob_pc hj ?_ | refine ob_pcn hj ?_); (try rw [hj]); first | exact c_Less24 hw (small24 hsz _ (by simp only [hj, std, e9]; omega) (by simp only [hj, std, e9]; omega))) | ((first | refine ob_le hj ?_ | refine ob_lei hj ?_ | refine ob_inb hj ?_ | refine ob_pos hj ?_ | refine ob_ne0 hj ?_ | refine ob_eqb hj ?_); (first | rfl | first | omega | (simp only [hj, std]; split <;> omega) | (simp (disch := omega) only [hj, std, cmpI, cmpB, satB, add64, sub64, ite0, pl0, pl2, pl3, sb0, if_true, if_false, eq_self, sC_len] <;> omega) | (simp (disch := omega) [hj, std, cmpI, cmpB, satB, add64, sub64, ite0, pl0, pl2, pl3, sb0, if_true, if_false, eq_self, sC_len] <;> omega))) | ((refine ob_ok hj ?_; simp only [hj, std, ite0, e9]; exact ok_sC (by omega))) | ((refine ob_le hj ?_; simp only [hj, std, ite0, e9, sC_len]; omega)) | ((refine ob_inb hj ?_; simp only [hj, std, ite0, e9]; omega)) | ((simp (disch := omega) only [hj, std, sub64]; first | omega | (refine ⟨by omega, by omega, fun n hn hn2 => ?_⟩; by_cases e : k ≤ n; exact k3 n e hn2; obtain rfl : n = (k - 1).toNat := (by omega); exact p))) | ((refine ob_le hj ?_; simp only [hj, std, ite0, pl0, pl2, sb0, if_true, sC_ext, sC_len, nS_eq, List.length_take, List.length_drop]; omega)) | ((refine ob_le hj ?_; simp only [hj, std, ite0, pl0, pl2, sb0, if_true, sC_ext, sC_len, nS_eq, List.length_take, List.length_drop]; split <;> omega)))
 all_goals (refine r1sl ?_ ?_ <;> rw [← e8])
 ·simp only [nS_eq, hj, std, pl0, pl2, pl3, if_false, sb0, ite0, if_true, List.length_append, List.length_take, List.length_drop, List.length_singleton]; omega
 ·simp only [hj, std, sC_ext, List.drop_zero, List.nil_append]; rw [et, ← sC_app, ← sC_app]; rfl
 ·simp only [nS_eq, hj, std, pl0, pl2, pl3, if_false, sb0, ite0, if_true, List.length_append, List.length_take, List.length_drop, List.length_singleton]; omega
 ·simp only [hj, std, sC_ext, List.drop_zero, List.nil_append]; rw [et, ← sC_app, ← sC_app]; rfl
theorem c_Put24 {l : List ByteArray} {w : ByteArray} {n : Nat} {cs : List C} (hn : n = nS l) (hc : cs = sC l) (hl : nS l ≤ 1000000) (hs : Set' l) (hsz : ∀ s ∈ l, s.size ≤ 100) (hw : w.size ≤ 100) : pc 26 [.v false [.sl n cs], .v false [vS w]] (ret1 (.st ((C.sl (nS (putS (strsOf cs) w)) (sC (putS (strsOf cs) w)))))) := by
 subst hn; subst hc
 rw [strsOf_sC]
 exact ⟨enters Try.func26 (by kernel_rfl) (by kernel_rfl), pc_Put24 l w hl hs hsz hw⟩
end Go.Proofs.Ytcpcghnpoekhpaa.A
/- Tries: the reference's fronts. -/
set_option linter.unusedSimpArgs false
set_option linter.unusedVariables false
set_option maxRecDepth 100000
set_option maxHeartbeats 4000000
namespace Go.Proofs.Ytcpcghnpoekhpaa.A
open Go
theorem frontR_snoc (x : Rw) : ∀ (l : List Rw) (m : List ByteArray), frontR (l ++ [x]) m = ((List.range x.2.1.size).map fun k => x.2.1.extract 0 (k + 1)).foldl putS (frontR l m)
 | [], m => rfl
 | y :: l, m => frontR_snoc x l _
theorem putS_len (l : List ByteArray) (w : ByteArray) : (putS l w).length ≤ l.length + 1 := by
 induction l with
 | nil => simp [putS]
 | cons x l ih =>
  unfold putS
  split
  ·simp
  ·split
   ·simp
   ·simp only [List.length_cons]; omega
theorem fold_len (l : List ByteArray) : ∀ m : List ByteArray, (l.foldl putS m).length ≤ m.length + l.length := by
 induction l with
 | nil => intro m; exact Nat.le_refl _
 | cons x l ih =>
  intro m
  have h1 := ih (putS m x)
  have h2 := putS_len m x
  rw [List.foldl_cons, List.length_cons]; omega
def frI (rows : List Rw) (i : Nat) (w : ByteArray) (k : Nat) : List ByteArray := ((List.range k).map fun q => w.extract 0 (q + 1)).foldl putS (frontR (rows.take i) [ByteArray.empty])
theorem frI_snoc (rows : List Rw) (i : Nat) (w : ByteArray) (k : Nat) : frI rows i w (k + 1) = putS (frI rows i w k) (w.extract 0 (k + 1)) := by
 unfold frI
 rw [List.range_succ, List.map_append, List.foldl_append]; rfl
theorem frI_next (rows : List Rw) {i : Nat} (h : i < rows.length) : frI rows i (rwAt rows i).2.1 (rwAt rows i).2.1.size = frontR (rows.take (i + 1)) [ByteArray.empty] := by
 rw [List.take_succ_eq_append_getElem h, frontR_snoc, rwAt_get h]; rfl
theorem frontR_len (rows : List Rw) (hw : ∀ x ∈ rows, x.2.1.size ≤ 100) : ∀ m : List ByteArray, (frontR rows m).length ≤ m.length + rows.length * 100 := by
 induction rows with
 | nil => intro m; exact Nat.le_refl _
 | cons x rows ih =>
  intro m
  have h1 := ih (fun y hy => hw y (List.mem_cons_of_mem _ hy)) (((List.range x.2.1.size).map fun k => x.2.1.extract 0 (k + 1)).foldl putS m)
  have h2 := fold_len ((List.range x.2.1.size).map fun k => x.2.1.extract 0 (k + 1)) m
  have h3 := hw x (List.mem_cons_self ..)
  rw [List.length_map, List.length_range] at h2
  rw [List.length_cons]
  show (frontR rows _).length ≤ _
  omega
theorem frI_ok (rows : List Rw) (hl : rows.length ≤ 100) (hw : ∀ x ∈ rows, x.2.1.size ≤ 100) (i : Nat) (w : ByteArray) (hs : w.size ≤ 100) (k : Nat) (hk : k ≤ w.size) : Set' (frI rows i w k) ∧ (∀ s ∈ frI rows i w k, s.size ≤ 100) ∧ nS (frI rows i w k) ≤ 1000000 := by
 obtain ⟨h1, h2⟩ := frontR_facts (rows.take i) [ByteArray.empty] (by simp [Set'])
 obtain ⟨h3, h4⟩ := fold_putS ((List.range k).map fun q => w.extract 0 (q + 1)) _ h1
 refine ⟨h3, fun s hx => ?_, ?_⟩
 ·rcases (h4 s).1 hx with q | q
  ·rcases (h2 s).1 q with q | ⟨r, hr, n, n1, n2, rfl⟩
   ·rw [List.mem_singleton.1 q]; exact Nat.zero_le _
   ·rw [size_ext0 _ n2]; exact Nat.le_trans n2 (hw r (List.mem_of_mem_take hr))
  ·obtain ⟨n, hn, rfl⟩ := List.mem_map.1 q
   rw [size_ext0 _ (by rw [List.mem_range] at hn; omega)]
   rw [List.mem_range] at hn; omega
 ·rw [nS_eq]
  have e1 := fold_len ((List.range k).map fun q => w.extract 0 (q + 1)) (frontR (rows.take i) [ByteArray.empty])
  have e2 := frontR_len (rows.take i) (fun x hx => hw x (List.mem_of_mem_take hx)) [ByteArray.empty]
  rw [List.length_map, List.length_range] at e1
  have e3 : (rows.take i).length ≤ 100 := by rw [List.length_take]; omega
  have e4 : ([ByteArray.empty] : List ByteArray).length = 1 := rfl
  unfold frI
  omega
def putQ24 (l : List ByteArray) (w : ByteArray) : List ByteArray := putS l w
def bookFr (x_sC : List ByteArray → List C) (x_nS : List ByteArray → Nat) (x_strsOf : List C → List ByteArray) (x_putQ24 : List ByteArray → ByteArray → List ByteArray) : Book := fun f xs => match f, xs with
 | 26, [.v false [.sl _ cs], .v false [.val (.string w)]] => some (ret1 (.st (.sl (x_nS (x_putQ24 (x_strsOf cs) w)) (x_sC (x_putQ24 (x_strsOf cs) w)))))
 | _, _ => none
theorem pc_Fronts24 (rows : List Rw) (hl : rows.length ≤ 100) (hw : ∀ x ∈ rows, x.2.1.size ≤ 100) : PC Try.prog T 9 [.v false [.sl (nRw rows) (rwC rows)]] (ret1 (.st ((C.sl (nS (fronts rows)) (sC (fronts rows)))))) [] := by
 have nl := nRw_eq rows
 have ll := rwC_len rows
 have ha := rwC_at rows
 have hok := frI_ok rows hl hw
 have hnx := @frI_next rows
 have h00 : frontR (rows.take (0 : Int).toNat) [ByteArray.empty] = [ByteArray.empty] := rfl
 refine pc_of tok Try.func9 rfl (by rfl) ?_
 obtain ⟨j, hj⟩ : ∃ j : J, j = std Try.prog T := ⟨_, rfl⟩
 have hm : Try.prog.follows .mixedOrders = true := by kernel_rfl
 generalize y_sC : @sC = x_sC at *
 generalize y_nS : @nS = x_nS at *
 generalize y_strsOf : @strsOf = x_strsOf at *
 generalize y_putQ24 : @putQ24 = x_putQ24 at *
 generalize y_rwC : @rwC = x_rwC at *
 generalize y_nRw : @nRw = x_nRw at *
 (repeat' first | ((first | with_reducible refine tr_cut (fun h => ?_) (fun h => ?_) | refine aw_condj (by cbv) (fun h => ?_) (fun h => ?_)) <;> (try simp (disch := omega) only [hj, std, cmpI, cmpB, satB, Bool.not_eq_true, Bool.not_eq_false, decide_eq_true_eq, decide_eq_false_iff_not, beq_iff_eq, bne_iff_ne, bne_eq_false_iff_eq, beq_eq_false_iff_ne, ne_eq, reduceCtorEq, not_true_eq_false, not_false_eq_true, pl0, if_true, cmpS_eq, cmpS_neq, Bool.not_eq_eq_eq_not, Bool.not_true, Bool.not_false, Bool.not_eq_true', add64, sub64] at h) <;> (try (exfalso; omega))) | (with_reducible refine tr_alt (fun h => ?_) ?_ <;> (try (exfalso; omega))) | (with_reducible first | refine tr_ob ?_ ?_ | refine tr_done ?_) | (refine aw_tr hj tok (bookFr x_sC x_nS x_strsOf x_putQ24) (by cbv) ?_) | (refine aw_seq fun K hK => ?_) | (refine aw_tr1 hj tok (bookFr x_sC x_nS x_strsOf x_putQ24) (by cbv) ?_) | (refine aw_skip ?_) | (refine aw_block ?_) | (refine aw_exit ?_) | (refine aw_ret ⟨.inr rfl, ret_okj hj (by cbv) ?_ ?_⟩) | (refine aw_ret ?_) | (with_reducible first | refine th_n ?_ | refine th_r ?_ | refine th_x ?_ | refine blk_n ?_ | refine blk_r ?_ | refine blk_x ?_ | refine blk_y rfl ?_) | (refine ⟨.inr rfl, ret_okj hj (by cbv) ?_ ?_⟩) | (refine ⟨.inl rfl, ret_okj hj (by cbv) ?_ ?_⟩) | (with_reducible first | refine ⟨(_, _, _), by cbv, ?_, ?_⟩ | refine ⟨_, by cbv, ?_, ?_⟩) | (with_reducible apply_assumption -symm -exfalso only [*]))
 all_goals ((try subst y_sC); (try subst y_nS); (try subst y_strsOf); (try subst y_putQ24); (try subst y_rwC); (try subst y_nRw))
 all_goals (try (repeat' first | with_reducible exact obl0 | (with_reducible refine obl1 ?_ ?_)))
 all_goals (try first | with_reducible exact True.intro | ((first | refine ob_le hj ?_ | refine ob_lei hj ?_ | refine ob_inb hj ?_ | refine ob_pos hj ?_ | refine ob_ne0 hj ?_ | refine ob_eqb hj ?_); (first | rfl | first | omega | (simp only [hj, std]; split <;> omega) | (simp (disch := omega) only [hj, std, cmpI, cmpB, satB, add64, sub64, ite0, pl0, pl2, pl3, sb0, if_true, if_false, eq_self] <;> omega) | (simp (disch := omega) [hj, std, cmpI, cmpB, satB, add64, sub64, ite0, pl0, pl2, pl3, sb0, if_true, if_false, eq_self] <;> omega))))
 refine aw_lpj hj [(0, .keep), (3, .fz), (4, .keep)] [] (fun (⟨i, n, cs⟩ : Int × Nat × (List C)) => stOf 33 [(0, .one (.c (.sl (nRw rows) (rwC rows)))), (3, .one (.c (.sl n cs))), (4, .one (.c (vI i)))] []) (fun (⟨i, n, cs⟩ : Int × Nat × (List C)) => nRw rows - i.toNat) (fun (⟨i, n, cs⟩ : Int × Nat × (List C)) => 0 ≤ i ∧ i ≤ nRw rows ∧ n = nS (frontR (rows.take i.toNat) [ByteArray.empty]) ∧ cs = sC (frontR (rows.take i.toNat) [ByteArray.empty])) ((0, 1, [vS ByteArray.empty])) (by generalize @sC = x_sC; generalize @nS = x_nS; generalize @strsOf = x_strsOf; generalize @putQ24 = x_putQ24; generalize @rwC = x_rwC; generalize @nRw = x_nRw; cbv) ?_ (fun ⟨i, n, cs⟩ hI => ?_)
 ·exact ⟨by omega, by omega, rfl, rfl⟩
 obtain ⟨i1, i2, i3, i4⟩ := hI
 rcases Decidable.em (i < (nRw rows : Int)) with hi | hi
 rotate_left
 ·have hE : frontR (rows.take i.toNat) [ByteArray.empty] = fronts rows := by rw [List.take_of_length_le (by omega)]; rfl
  rw [hE] at i3 i4
  generalize y_sC : @sC = x_sC at *
  generalize y_nS : @nS = x_nS at *
  generalize y_strsOf : @strsOf = x_strsOf at *
  generalize y_putQ24 : @putQ24 = x_putQ24 at *
  generalize y_rwC : @rwC = x_rwC at *
  generalize y_nRw : @nRw = x_nRw at *
  (repeat' first | (refine aw_retz hj [(2, .fz)] (by cbv) ?_) | ((first | with_reducible refine tr_cut (fun h => ?_) (fun h => ?_) | refine aw_condj (by cbv) (fun h => ?_) (fun h => ?_)) <;> (try simp (disch := omega) only [hj, std, cmpI, cmpB, satB, Bool.not_eq_true, Bool.not_eq_false, decide_eq_true_eq, decide_eq_false_iff_not, beq_iff_eq, bne_iff_ne, bne_eq_false_iff_eq, beq_eq_false_iff_ne, ne_eq, reduceCtorEq, not_true_eq_false, not_false_eq_true, pl0, if_true, cmpS_eq, cmpS_neq, Bool.not_eq_eq_eq_not, Bool.not_true, Bool.not_false, Bool.not_eq_true', add64, sub64] at h) <;> (try (exfalso; omega))) | (with_reducible refine tr_alt (fun h => ?_) ?_ <;> (try (exfalso; omega))) | (with_reducible first | refine tr_ob ?_ ?_ | refine tr_done ?_) | (refine aw_tr hj tok (bookFr x_sC x_nS x_strsOf x_putQ24) (by cbv) ?_) | (refine aw_seq fun K hK => ?_) | (refine aw_tr1 hj tok (bookFr x_sC x_nS x_strsOf x_putQ24) (by cbv) ?_) | (refine aw_skip ?_) | (refine aw_block ?_) | (refine aw_exit ?_) | (refine aw_ret ⟨.inr rfl, ret_okj hj (by cbv) ?_ ?_⟩) | (refine aw_ret ?_) | (with_reducible first | refine th_n ?_ | refine th_r ?_ | refine th_x ?_ | refine blk_n ?_ | refine blk_r ?_ | refine blk_x ?_ | refine blk_y rfl ?_) | (refine ⟨.inr rfl, ret_okj hj (by cbv) ?_ ?_⟩) | (refine ⟨.inl rfl, ret_okj hj (by cbv) ?_ ?_⟩) | (with_reducible first | refine ⟨(_, _, _), by cbv, ?_, ?_⟩ | refine ⟨_, by cbv, ?_, ?_⟩) | (with_reducible apply_assumption -symm -exfalso only [*]))
  all_goals ((try subst y_sC); (try subst y_nS); (try subst y_strsOf); (try subst y_putQ24); (try subst y_rwC); (try subst y_nRw))
  all_goals (try (repeat' first | with_reducible exact obl0 | (with_reducible refine obl1 ?_ ?_)))
  all_goals (try first | with_reducible exact True.intro | ((first | refine ob_le hj ?_ | refine ob_lei hj ?_ | refine ob_inb hj ?_ | refine ob_pos hj ?_ | refine ob_ne0 hj ?_ | refine ob_eqb hj ?_); (first | rfl | first | omega | (simp only [hj, std]; split <;> omega) | (simp (disch := omega) only [hj, std, cmpI, cmpB, satB, add64, sub64, ite0, pl0, pl2, pl3, sb0, if_true, if_false, eq_self] <;> omega) | (simp (disch := omega) [hj, std, cmpI, cmpB, satB, add64, sub64, ite0, pl0, pl2, pl3, sb0, if_true, if_false, eq_self] <;> omega))) | ((refine r1sl ?_ ?_ <;> assumption)) | ((subst i3; subst i4; exact rfl)))
 have hil : i.toNat < rows.length := by omega
 obtain ⟨c0, c1, c2⟩ := ha i.toNat hil
 have g1 : gs (cellAt (rwC rows) (i.toNat * 3 + 1)) = (rwAt rows i.toNat).2.1 := by rw [c1]; rfl
 have hx : (rwAt rows i.toNat).2.1.size ≤ 100 := by rw [rwAt_get hil]; exact hw _ (List.getElem_mem hil)
 have hn := hnx hil
 have f1 : (i + 1).toNat = i.toNat + 1 := by omega
 rw [← f1] at hn
 have hok := hok i.toNat (rwAt rows i.toNat).2.1 hx
 have h0 : frontR (rows.take i.toNat) [ByteArray.empty] = frI rows i.toNat (rwAt rows i.toNat).2.1 0 := rfl
 have hsn := frI_snoc rows i.toNat (rwAt rows i.toNat).2.1
 rw [h0] at i3 i4
 generalize (rwAt rows i.toNat).2.1 = x at *
 clear h0 hnx ha h00
 generalize y_sC : @sC = x_sC at *
 generalize y_nS : @nS = x_nS at *
 generalize y_strsOf : @strsOf = x_strsOf at *
 generalize y_putQ24 : @putQ24 = x_putQ24 at *
 generalize y_rwC : @rwC = x_rwC at *
 generalize y_nRw : @nRw = x_nRw at *
 (repeat' first | ((first | with_reducible refine tr_cut (fun h => ?_) (fun h => ?_) | refine aw_condj (by cbv) (fun h => ?_) (fun h => ?_)) <;> (try simp (disch := omega) only [hj, std, cmpI, cmpB, satB, Bool.not_eq_true, Bool.not_eq_false, decide_eq_true_eq, decide_eq_false_iff_not, beq_iff_eq, bne_iff_ne, bne_eq_false_iff_eq, beq_eq_false_iff_ne, ne_eq, reduceCtorEq, not_true_eq_false, not_false_eq_true, pl0, if_true, cmpS_eq, cmpS_neq, Bool.not_eq_eq_eq_not, Bool.not_true, Bool.not_false, Bool.not_eq_true', add64, sub64] at h) <;> (try (exfalso; omega))) | (with_reducible refine tr_alt (fun h => ?_) ?_ <;> (try (exfalso; omega))) | (with_reducible first | refine tr_ob ?_ ?_ | refine tr_done ?_) | (refine aw_tr hj tok (bookFr x_sC x_nS x_strsOf x_putQ24) (by cbv) ?_) | (refine aw_seq fun K hK => ?_) | (refine aw_tr1 hj tok (bookFr x_sC x_nS x_strsOf x_putQ24) (by cbv) ?_) | (refine aw_skip ?_) | (refine aw_block ?_) | (refine aw_exit ?_) | (refine aw_ret ⟨.inr rfl, ret_okj hj (by cbv) ?_ ?_⟩) | (refine aw_ret ?_) | (with_reducible first | refine th_n ?_ | refine th_r ?_ | refine th_x ?_ | refine blk_n ?_ | refine blk_r ?_ | refine blk_x ?_ | refine blk_y rfl ?_) | (refine ⟨.inr rfl, ret_okj hj (by cbv) ?_ ?_⟩) | (refine ⟨.inl rfl, ret_okj hj (by cbv) ?_ ?_⟩) | (with_reducible first | refine ⟨(_, _, _), by cbv, ?_, ?_⟩ | refine ⟨_, by cbv, ?_, ?_⟩) | (with_reducible apply_assumption -symm -exfalso only [*]))
 all_goals ((try subst y_sC); (try subst y_nS); (try subst y_strsOf); (try subst y_putQ24); (try subst y_rwC); (try subst y_nRw))
 all_goals (try (repeat' first | with_reducible exact obl0 | (with_reducible refine obl1 ?_ ?_)))
 all_goals (try first | with_reducible exact True.intro | ((first | refine ob_le hj ?_ | refine ob_lei hj ?_ | refine ob_inb hj ?_ | refine ob_pos hj ?_ | refine ob_ne0 hj ?_ | refine ob_eqb hj ?_); (first | rfl | first | omega | (simp only [hj, std]; split <;> omega) | (simp (disch := omega) only [hj, std, cmpI, cmpB, satB, add64, sub64, ite0, pl0, pl2, pl3, sb0, if_true, if_false, eq_self] <;> omega) | (simp (disch := omega) [hj, std, cmpI, cmpB, satB, add64, sub64, ite0, pl0, pl2, pl3, sb0, if_true, if_false, eq_self] <;> omega))))
 refine aw_lpj hj [(0, .keep), (3, .fz), (4, .keep), (5, .keep)] [] (fun (⟨k, n2, cs2⟩ : Int × Nat × (List C)) => stOf 33 [(0, .one (.c (.sl (nRw rows) (rwC rows)))), (3, .one (.c (.sl n2 cs2))), (4, .one (.c (vI i))), (5, .one (.c (vI k)))] []) (fun (⟨k, n2, cs2⟩ : Int × Nat × (List C)) => x.size + 1 - k.toNat) (fun (⟨k, n2, cs2⟩ : Int × Nat × (List C)) => 1 ≤ k ∧ k ≤ x.size + 1 ∧ n2 = nS (frI rows i.toNat x (k - 1).toNat) ∧ cs2 = sC (frI rows i.toNat x (k - 1).toNat)) ((1, n, cs)) (by generalize @sC = x_sC; generalize @nS = x_nS; generalize @strsOf = x_strsOf; generalize @putQ24 = x_putQ24; generalize @rwC = x_rwC; generalize @nRw = x_nRw; cbv) ?_ (fun ⟨k, n2, cs2⟩ hI => ?_)
 ·exact ⟨by omega, by omega, i3, i4⟩
 obtain ⟨k1, k2, k3, k4⟩ := hI
 rcases Decidable.em (k ≤ (x.size : Int)) with hk | hk
 rotate_left
 ·rw [show (k - 1).toNat = x.size by omega, hn] at k3 k4
  clear hn hsn hok
  generalize y_sC : @sC = x_sC at *
  generalize y_nS : @nS = x_nS at *
  generalize y_strsOf : @strsOf = x_strsOf at *
  generalize y_putQ24 : @putQ24 = x_putQ24 at *
  generalize y_rwC : @rwC = x_rwC at *
  generalize y_nRw : @nRw = x_nRw at *
  (repeat' first | ((first | with_reducible refine tr_cut (fun h => ?_) (fun h => ?_) | refine aw_condj (by cbv) (fun h => ?_) (fun h => ?_)) <;> (try simp (disch := omega) only [hj, std, cmpI, cmpB, satB, Bool.not_eq_true, Bool.not_eq_false, decide_eq_true_eq, decide_eq_false_iff_not, beq_iff_eq, bne_iff_ne, bne_eq_false_iff_eq, beq_eq_false_iff_ne, ne_eq, reduceCtorEq, not_true_eq_false, not_false_eq_true, pl0, if_true, cmpS_eq, cmpS_neq, Bool.not_eq_eq_eq_not, Bool.not_true, Bool.not_false, Bool.not_eq_true', g1, ite0, Int.ofNat_eq_natCast, add64, sub64] at h) <;> (try (exfalso; omega))) | (with_reducible refine tr_alt (fun h => ?_) ?_ <;> (try (exfalso; omega))) | (with_reducible first | refine tr_ob ?_ ?_ | refine tr_done ?_) | (refine aw_tr hj tok (bookFr x_sC x_nS x_strsOf x_putQ24) (by cbv) ?_) | (refine aw_seq fun K hK => ?_) | (refine aw_tr1 hj tok (bookFr x_sC x_nS x_strsOf x_putQ24) (by cbv) ?_) | (refine aw_skip ?_) | (refine aw_block ?_) | (refine aw_exit ?_) | (refine aw_ret ⟨.inr rfl, ret_okj hj (by cbv) ?_ ?_⟩) | (refine aw_ret ?_) | (with_reducible first | refine th_n ?_ | refine th_r ?_ | refine th_x ?_ | refine blk_n ?_ | refine blk_r ?_ | refine blk_x ?_ | refine blk_y rfl ?_) | (refine ⟨.inr rfl, ret_okj hj (by cbv) ?_ ?_⟩) | (refine ⟨.inl rfl, ret_okj hj (by cbv) ?_ ?_⟩) | (with_reducible first | refine ⟨(_, _, _), by cbv, ?_, ?_⟩ | refine ⟨_, by cbv, ?_, ?_⟩) | (with_reducible apply_assumption -symm -exfalso only [*]))
  all_goals ((try subst y_sC); (try subst y_nS); (try subst y_strsOf); (try subst y_putQ24); (try subst y_rwC); (try subst y_nRw))
  all_goals (try (repeat' first | with_reducible exact obl0 | (with_reducible refine obl1 ?_ ?_)))
  all_goals (try first | with_reducible exact True.intro | ((first | refine ob_le hj ?_ | refine ob_lei hj ?_ | refine ob_inb hj ?_ | refine ob_pos hj ?_ | refine ob_ne0 hj ?_ | refine ob_eqb hj ?_); (first | rfl | first | omega | (simp only [hj, std]; split <;> omega) | (simp (disch := omega) only [hj, std, cmpI, cmpB, satB, add64, sub64, ite0, pl0, pl2, pl3, sb0, if_true, if_false, eq_self, ll, g1] <;> omega) | (simp (disch := omega) [hj, std, cmpI, cmpB, satB, add64, sub64, ite0, pl0, pl2, pl3, sb0, if_true, if_false, eq_self, ll, g1] <;> omega))) | ((refine ob_ok hj ?_; simp only [hj, std, ite0]; exact ⟨_, c1⟩)) | ((simp (disch := omega) only [hj, std, add64]; first | omega | exact ⟨by omega, by omega, k3, k4⟩)))
 have f2 : (k + 1 - 1).toNat = (k - 1).toNat + 1 := by omega
 have f3 : (k - 1).toNat + 1 = k.toNat := by omega
 have hs9 := hsn (k - 1).toNat
 rw [f3] at hs9
 have hk9 : frI rows i.toNat x (k + 1 - 1).toNat = putS (frI rows i.toNat x (k - 1).toNat) (x.extract 0 k.toNat) := by rw [f2, f3, hs9]
 obtain ⟨o1, o2, o3⟩ := hok (k - 1).toNat (by omega)
 have hcp : pc 26 [.v false [.sl n2 cs2], .v false [vS (x.extract 0 k.toNat)]] (ret1 (.st (.sl (nS (putQ24 (strsOf cs2) (x.extract 0 k.toNat))) (sC (putQ24 (strsOf cs2) (x.extract 0 k.toNat)))))) :=
  c_Put24 k3 k4 o3 o1 o2 (by rw [size_ext0 _ (by omega)]; omega)
 have hr9 : putQ24 (strsOf cs2) (x.extract 0 k.toNat) = frI rows i.toNat x (k + 1 - 1).toNat := by unfold putQ24; rw [k4, strsOf_sC, hk9]
 clear hn hsn hok hs9
 generalize y_sC : @sC = x_sC at *
 generalize y_nS : @nS = x_nS at *
 generalize y_strsOf : @strsOf = x_strsOf at *
 generalize y_putQ24 : @putQ24 = x_putQ24 at *
 generalize y_rwC : @rwC = x_rwC at *
 generalize y_nRw : @nRw = x_nRw at *
 (repeat' first | ((first | with_reducible refine tr_cut (fun h => ?_) (fun h => ?_) | refine aw_condj (by cbv) (fun h => ?_) (fun h => ?_)) <;> (try simp (disch := omega) only [hj, std, cmpI, cmpB, satB, Bool.not_eq_true, Bool.not_eq_false, decide_eq_true_eq, decide_eq_false_iff_not, beq_iff_eq, bne_iff_ne, bne_eq_false_iff_eq, beq_eq_false_iff_ne, ne_eq, reduceCtorEq, not_true_eq_false, not_false_eq_true, pl0, if_true, cmpS_eq, cmpS_neq, Bool.not_eq_eq_eq_not, Bool.not_true, Bool.not_false, Bool.not_eq_true', g1, ite0, Int.ofNat_eq_natCast, add64, sub64] at h) <;> (try (exfalso; omega))) | (with_reducible refine tr_alt (fun h => ?_) ?_ <;> (try (exfalso; omega))) | (with_reducible first | refine tr_ob ?_ ?_ | refine tr_done ?_) | (refine aw_tr hj tok (bookFr x_sC x_nS x_strsOf x_putQ24) (by cbv) ?_) | (refine aw_seq fun K hK => ?_) | (refine aw_tr1 hj tok (bookFr x_sC x_nS x_strsOf x_putQ24) (by cbv) ?_) | (refine aw_skip ?_) | (refine aw_block ?_) | (refine aw_exit ?_) | (refine aw_ret ⟨.inr rfl, ret_okj hj (by cbv) ?_ ?_⟩) | (refine aw_ret ?_) | (with_reducible first | refine th_n ?_ | refine th_r ?_ | refine th_x ?_ | refine blk_n ?_ | refine blk_r ?_ | refine blk_x ?_ | refine blk_y rfl ?_) | (refine ⟨.inr rfl, ret_okj hj (by cbv) ?_ ?_⟩) | (refine ⟨.inl rfl, ret_okj hj (by cbv) ?_ ?_⟩) | (with_reducible first | refine ⟨(_, _, _), by cbv, ?_, ?_⟩ | refine ⟨_, by cbv, ?_, ?_⟩) | (with_reducible apply_assumption -symm -exfalso only [*]))
 all_goals ((try subst y_sC); (try subst y_nS); (try subst y_strsOf); (try subst y_putQ24); (try subst y_rwC); (try subst y_nRw))
 all_goals (try (repeat' first | with_reducible exact obl0 | with_reducible refine obl1 ?_ ?_))
 all_goals (try first | with_reducible exact True.intro | ((first | refine ob_le hj ?_ | refine ob_lei hj ?_ | refine ob_inb hj ?_ | refine ob_pos hj ?_ | refine ob_ne0 hj ?_ | refine ob_eqb hj ?_); (first | rfl | first | omega | (simp only [hj, std]; split <;> omega) | (simp (disch := omega) only [hj, std, cmpI, cmpB, satB, add64, sub64, ite0, pl0, pl2, pl3, sb0, if_true, if_false, eq_self, ll, g1] <;> omega) | (simp (disch := omega) [hj, std, cmpI, cmpB, satB, add64, sub64, ite0, pl0, pl2, pl3, sb0, if_true, if_false, eq_self, ll, g1] <;> omega))) | ((refine ob_pc hj ?_; simp only [hj, std, ite0, g1]; exact hcp)) | ((refine ob_ok hj ?_; simp only [hj, std, ite0]; exact ⟨_, c1⟩)) | ((simp (disch := omega) only [hj, std, add64, ite0, g1]; first | omega | exact ⟨by omega, by omega, by rw [hr9], by rw [hr9]⟩)))
end Go.Proofs.Ytcpcghnpoekhpaa.A
/- Tries: Depth of the chapter's machine, by hand: maps of one entry are ranged over. -/
set_option linter.unusedSimpArgs false
set_option linter.unusedVariables false
set_option maxRecDepth 100000
set_option maxHeartbeats 4000000
namespace Go.Proofs.Ytcpcghnpoekhpaa.A
open Go Go.RowKit
def exT : List Sta := [(-1, [(0, 1)]), (3, [(1, 2)]), (4, [])]
theorem crepVI {w : World} {S : Nat → Prop} {v : Value} {n : Int} (h : CRep w S v (vI n)) : v = .int .i64 n := by cases h; rfl
theorem exT_sz : SzM exT := ⟨by decide, by decide⟩
theorem exT_v : ∀ i, i < exT.length → ∀ e ∈ (mAt exT i).2, 0 ≤ e.2 ∧ e.2 < exT.length := by decide
theorem map_tyI : ∃ te, mapTy T 62 = some (.int .i64, te) ∧ te.zero = .int .i64 0 := ⟨_, by rfl, by rfl⟩
variable {w : World} {S : Nat → Prop}
theorem gives_two {ra : List Root} {bx : Nat → Nat} {ph : Nat → Nat → Pv} {a b : Value} {v : Value} {w' : World} {S' : Nat → Prop} {bx' : Nat → Nat} {ph' : Nat → Nat → Pv} (h : Gives T w S ra bx ph (rets [(false, [.st (.val a)]), (false, [.st (.val b)])]) [] v w' S' bx' ph') : v = .tuple #[a, b] := by
 have h1 := h.heap.cell (t := 0) (o := 0) (rc := .st (.val a)) rfl
 have h2 := h.heap.cell (t := 0) (o := 1) (rc := .st (.val b)) rfl
 have h3 := h.val
 unfold RetRep at h3
 obtain ⟨us, rfl, h3⟩ := h3
 have e1 := (crep_val (show CRep w' S' (ph' 0 0).v (.val a) from h1)).1
 have e2 := (crep_val (show CRep w' S' (ph' 0 1).v (.val b) from h2)).1
 match hus : us.toList, h3 with
 | [x, y], h3 =>
  obtain ⟨⟨_, p1⟩, ⟨_, p2⟩, _⟩ := h3
  have : us = #[x, y] := Array.toList_inj.1 hus
  rw [this, p1, p2, e1]
  show Value.tuple #[a, (ph' 0 1).v] = _
  rw [e2]
 | [], h3 => exact h3.elim
 | [_], h3 => exact h3.2.elim
 | _ :: _ :: _ :: _, h3 => exact h3.2.2.elim
theorem step_ex (hlow : LowG w S) {a : Option Addr} {cap : Nat} (hm : CRep w S (.slice a 3 cap) (.sl (nM exT) (mC exT))) (k : Nat) (hk : k < 2) : Calls Try.prog 17 #[.slice a 3 cap, .int .i64 k, .int .i64 k] w fun e w' => e = .returned (.tuple #[.int .i64 ((k + 1 : Nat) : Int), .bool true]) ∧ Below w.heap.size w w' := by
 have hp := pc_Step exT k k exT_sz exT_v
 have hno : ∀ t κ b, ¬ owns (([.v false [.sl (nM exT) (mC exT)], .v false [vI k], .v false [vI k]] : List Arg).map Arg.asRoot) (fun _ => 0) (fun _ _ => default) t κ b := fun t κ b hb => by
  match t with
  | 0 | 1 | 2 => exact (owns_none _ _ _ rfl _ _ hb).elim
  | t + 3 => exact (owns_none _ _ _ rfl _ _ hb).elim
 have hh : Heap T w S (([.v false [.sl (nM exT) (mC exT)], .v false [vI k], .v false [vI k]] : List Arg).map Arg.asRoot) (fun _ => 0) (fun _ _ => default) := ⟨fun t => by
  match t with
  | 0 | 1 | 2 => trivial
  | t + 3 => trivial, fun t κ t' κ' b h => absurd h (hno t κ b), fun t κ b h => absurd h (hno t κ b), hlow⟩
 refine (hp w S _ _ [.slice a 3 cap, .int .i64 k, .int .i64 k] hh rfl fun i h1 h2 => ?_).mono ?_
 ·match i with
  | 0 => exact ⟨_, rfl, hm⟩
  | 1 => exact ⟨_, rfl, .val rfl⟩
  | 2 => exact ⟨_, rfl, .val rfl⟩
  | i + 3 => exact absurd h2 (by simp)
 ·rintro e w' ⟨v, S', bx', ph', rfl, g⟩
  have e1 : stepI exT k k = ((k + 1 : Nat) : Int) ∧ stepB exT k k = true := by
   match k, hk with
   | 0, _ => exact ⟨by decide, by decide⟩
   | 1, _ => exact ⟨by decide, by decide⟩
  have hv := gives_two g
  rw [e1.1, e1.2] at hv
  exact ⟨by rw [hv], g.chg.below (Nat.le_refl _) fun b _ ⟨t, κ, hb⟩ => absurd hb (hno t κ b)⟩
def ExAt (W : World) (B off : Nat) : Prop := ∀ k, k < 3 → ∃ ae ce, W.cell? ⟨B, off + k * 2 + 1, none⟩ = some (.slice ae (if k < 2 then 1 else 0) ce) ∧ (k < 2 → ∃ be oe, ae = some ⟨be, oe, none⟩ ∧ W.cell? ⟨be, oe, none⟩ = some (.int .i64 k) ∧ W.cell? ⟨be, oe + 1, none⟩ = some (.int .i64 ((k + 1 : Nat) : Int)))
theorem ex_at {v : Value} (h : CRep w S v (.sl (nM exT) (mC exT))) : ∃ B off cap, v = .slice (some ⟨B, off, none⟩) 3 cap ∧ ExAt w B off := by
 have e : mC exT = [vI (-1), .sl 1 [vI 0, vI 1], vI 3, .sl 1 [vI 1, vI 2], vI 4, .sl 0 []] := rfl
 have e3 : nM exT = 3 := rfl
 rw [e, e3] at h
 cases h with
 | sl vs hs hc hcell hrep =>
  rename_i B off cap
  refine ⟨B, off, cap, rfl, fun k hk => ?_⟩
  have edge : ∀ (i a b : Nat) (hi : i < 6), [vI (-1), C.sl 1 [vI 0, vI 1], vI 3, C.sl 1 [vI 1, vI 2], vI 4, C.sl 0 []][i] = C.sl 1 [vI a, vI b] → ∃ ae ce, w.cell? ⟨B, off + i, none⟩ = some (.slice ae 1 ce) ∧ ∃ be oe, ae = some ⟨be, oe, none⟩ ∧ w.cell? ⟨be, oe, none⟩ = some (.int .i64 a) ∧ w.cell? ⟨be, oe + 1, none⟩ = some (.int .i64 b) := fun i a b hi he => by
   have h1 := hcell i hi
   have h2 := hrep i hi
   rw [he] at h2
   generalize vs i = x at h1 h2
   cases h2 with
   | sl us q1 q2 q3 q4 =>
    rename_i be oe ce
    have r0 := q4 0 (by simp)
    have r1 := q4 1 (by simp)
    refine ⟨_, _, h1, be, oe, rfl, ?_, ?_⟩
    ·have := q3 0 (by simp); rw [show us 0 = .int .i64 a from crepVI r0] at this; exact this
    ·have := q3 1 (by simp); rw [show us 1 = .int .i64 b from crepVI r1] at this; exact this
  match k, hk with
  | 0, _ =>
   obtain ⟨ae, ce, h1, h2⟩ := edge 1 0 1 (by omega) rfl
   exact ⟨ae, ce, h1, fun _ => h2⟩
  | 1, _ =>
   obtain ⟨ae, ce, h1, h2⟩ := edge 3 1 2 (by omega) rfl
   exact ⟨ae, ce, h1, fun _ => h2⟩
  | 2, _ =>
   have h1 := hcell 5 (by simp)
   have h2 := hrep 5 (by simp)
   generalize vs 5 = x at h1 h2
   have : ∃ ae ce, x = .slice ae 0 ce := by
    cases h2 with
    | sl0 => exact ⟨_, _, rfl⟩
    | sl => exact ⟨_, _, rfl⟩
   obtain ⟨ae, ce, rfl⟩ := this
   exact ⟨ae, ce, h1, fun h => absurd h (by omega)⟩
end Go.Proofs.Ytcpcghnpoekhpaa.A
/- Tries: Depth of the chapter's machine is 2. -/
set_option linter.unusedSimpArgs false
set_option linter.unusedVariables false
set_option maxRecDepth 100000
set_option maxHeartbeats 4000000
namespace Go.Proofs.Ytcpcghnpoekhpaa
open Go Go.RowKit Go.Proofs
def One (W : World) (b : Nat) (k : Int) : Prop := ∃ v born clk, W.heap[b]? = some (.map #[{ key := .int .i64 k, val := v, born := born }] clk) ∧ born < clk
def NextOk (W : World) (b k : Nat) : Prop := if k < 2 then One W b ((k + 1 : Nat) : Int) else W.heap[b]? = some (.map #[] 0)
theorem run_mapUpdate1 {P : Program} {w : World} (mty kt et : TypeId) (r : Nat) (s : Int) (val : Value) (hm : P.underlying mty = some (.map kt et)) (hk : P.underlying kt = some (.int .i64)) (hb : w.heap[r]? = some (.map #[] 0)) :
  (Instr.mapUpdate mty (.map (some r)) (.int .i64 s) val).run P w = .ok () (ChangeMaps.setBlock w r (.map #[{ key := .int .i64 s, val := val, born := 0 }] 1)) := by
 have hf : Instr.findNow (.int .i64) (.int .i64 s) ([] : List MapEntry) 0 = some none := rfl
 have hc : (Instr.checkKey false 10000 kt (.int .i64 s)).run P w = .ok () w := MapKept.run_checkKey (k := .int .i64 s) hk (by simp [MapKept.IsKey]) false 9999
 simp [Instr.mapUpdate, run_underlying hm, MapKept.run_getObj_map hb, hc, MapKept.run_findKey hk hf, MapKept.run_setObj_map _ hb, Result.andThen, ChangeMaps.setBlock]
theorem run_lenMap {P : Program} {t k e ty : TypeId} (ht : P.underlying t = some (.map k e)) {b : Nat} {es : Array MapEntry} {clock : Nat} {w : World} (hb : w.heap[b]? = some (.map es clock)) : (Builtin.len_ #[t] ty #[.map (some b)]).run P w = .ok (.int .i64 es.size) w := by
 simp [Builtin.len_, run_underlying ht, MapKept.run_getObj_map hb, Result.andThen, goInt]
theorem A.setBlock_chgT (w : World) (b : Nat) (o : Obj) : Chg (fun k => k = b) w (ChangeMaps.setBlock w b o) := ⟨rfl, rfl, rfl, by simp [ChangeMaps.setBlock], fun k _ hk => by
 show (w.heap.setIfInBounds b o)[k]? = _
 rw [Array.getElem?_setIfInBounds, if_neg (fun e => hk e.symm)]⟩
set_option maxHeartbeats 4000000 in
set_option maxRecDepth 100000 in
theorem depth_any (w : World) (S : Nat → Prop) (hlow : A.LowG w S) (B off cap : Nat) (hv : A.CRep w S (.slice (some ⟨B, off, none⟩) 3 cap) (.sl (A.nM A.exT) (A.mC A.exT))) (hx : A.ExAt w B off) :
  Calls Try.prog 20 #[.slice (some ⟨B, off, none⟩) 3 cap] w fun e w' => e = .returned (.int .i64 2) ∧ Below w.heap.size w w' := by
 have hmm := @run_makeMap Try.prog
 have hb0 : (w.alloc (.map #[] 0)).heap[w.heap.size]? = some (.map #[] 0) := heap_alloc_new w _
 have hins := run_mapUpdate1 (P := Try.prog) 62 _ _ w.heap.size 0 (.int .i64 1) Try.underlying62 Try.underlying3 hb0
 obtain ⟨w1, hw1⟩ : ∃ w1, w1 = ChangeMaps.setBlock (w.alloc (.map #[] 0)) w.heap.size (.map #[{ key := .int .i64 0, val := .int .i64 1, born := 0 }] 1) := ⟨_, rfl⟩
 have k1 : Below w.heap.size w w1 := by
  rw [hw1]; exact ((Below.refl _ w).alloc (Nat.le_refl _) _).trans ((A.setBlock_chgT _ _ _).below (by simp) fun k _ hk => by omega)
 have o1 : One w1 w.heap.size 0 := ⟨_, _, _, by rw [hw1]; exact (MapKept.heap_set hb0).1, Nat.lt_succ_self _⟩
 have hstep : ∀ (W : World) (k : Nat), Below w.heap.size w W → k < 2 → Calls Try.prog 17 #[.slice (some ⟨B, off, none⟩) 3 cap, .int .i64 k, .int .i64 k] W fun e w' => e = .returned (.tuple #[.int .i64 ((k + 1 : Nat) : Int), .bool true]) ∧ Below W.heap.size W w' := fun W k hb hk => by
  have hSb : ∀ b, S b → W.heap[b]? = w.heap[b]? := fun b hs => hb.block b (hlow.1 b hs)
  exact A.step_ex ⟨fun b hs => Nat.lt_of_lt_of_le (hlow.1 b hs) hb.size, hlow.2.frame hSb fun _ h => h⟩ (hv.frame hSb fun _ h => h) k hk
 have HST := Lib.hid hstep
 have hsz : ∀ (W : World), Below w.heap.size w W → A.ExAt W B off := fun W hb => by
  obtain ⟨B', off', cap', e, h⟩ := A.ex_at (hv.frame (w' := W) (S' := S) (fun b hs => hb.block b (hlow.1 b hs)) fun _ h => h)
  cases e; exact h
 have HX := Lib.hid hsz
 have K1 := Lib.hid k1
 have O1 := Lib.hid o1
 clear k1 o1 hx hv hstep hsz hlow
 go_enter Try.func20, Try.ntmps20
 go_wp2_with fail
 rw [← hw1]
 clear hw1 hins hb0
 go_loopw [3, 18] (fun now i wr => ∃ (k b : Nat), k ≤ 2 ∧ i = .int .i64 k ∧ now = .map (some b) ∧ Below w.heap.size w wr ∧ w.heap.size ≤ b ∧ One wr b k) (fun _ i _ => 3 - (intOf i).toNat)
 case atStart => exact ⟨0, _, by omega, rfl, rfl, K1.out, Nat.le_refl _, O1.out⟩
 case round =>
  obtain ⟨k, b, hk, rfl, rfl, hbw, hwb, hone⟩ := hrel
  obtain ⟨v, born, clk, hmap, hlt⟩ := hone
  have lb := lt_of_block hmap
  -- the next map, and the iterator
  have hmk : (wr.alloc (.map #[] 0)).heap[b]? = some (.map #[{ key := .int .i64 k, val := v, born := born }] clk) := (heap_alloc_old wr _ lb).trans hmap
  have hrg := run_range_map (P := Try.prog) (wr.alloc (.map #[] 0)) 62 _ _ b _ clk Try.underlying62 hmk
  obtain ⟨w2, hw2⟩ : ∃ w2, w2 = (wr.alloc (.map #[] 0)).alloc (.mapIter (some b) clk #[] clk) := ⟨_, rfl⟩
  obtain ⟨nb, hnb⟩ : ∃ nb, nb = wr.heap.size := ⟨_, rfl⟩
  have q0 : w2.heap[nb]? = some (.map #[] 0) := by rw [hw2, hnb]; exact (heap_alloc_old _ _ (by simp)).trans (heap_alloc_new wr _)
  have q1 : w2.heap[nb + 1]? = some (.mapIter (some b) clk #[] clk) := by rw [hw2, hnb]; have := heap_alloc_new (wr.alloc (.map #[] 0)) (.mapIter (some b) clk #[] clk); rwa [World.size_alloc] at this
  have q2 : w2.heap[b]? = some (.map #[{ key := .int .i64 k, val := v, born := born }] clk) := by rw [hw2]; exact (heap_alloc_old _ _ (by simp; omega)).trans hmk
  have q3 : Below w.heap.size w w2 := by rw [hw2]; exact (hbw.alloc hbw.size _).alloc (by simp; have := hbw.size; omega) _
  have q4 : w.heap.size ≤ nb := by rw [hnb]; exact hbw.size
  have q5 : b < nb := by rw [hnb]; exact lb
  have Q0 := Lib.hid q0
  have Q1 := Lib.hid q1
  have Q2 := Lib.hid q2
  have Q3 := Lib.hid q3
  clear q0 q1 q2 q3 hmap hmk hbw
  go_wp2_with fail
  rw [← hw2, ← hnb]
  clear hw2 hnb hrg lb
  have hd9 : decide ((k : Int) < 3) = true := decide_eq_true (by omega)
  rw [hd9]
  clear hd9
  go_loopw [24] (fun _ wr => ∃ (seen : Array Nat) (c0 : Nat), Below w.heap.size w wr ∧ wr.heap[nb + 1]? = some (.mapIter (some b) clk seen c0) ∧ clk ≤ c0 ∧ wr.heap[b]? = some (.map #[{ key := .int .i64 k, val := v, born := born }] clk) ∧ ((seen = #[] ∧ wr.heap[nb]? = some (.map #[] 0)) ∨ (seen = #[born] ∧ NextOk wr nb k))) (fun _ wr => wr.rangeLeft b (nb + 1))
  case atStart => exact ⟨#[], clk, Q3.out, Q1.out, Nat.le_refl _, Q2.out, .inl ⟨rfl, Q0.out⟩⟩
  case round =>
   obtain ⟨seen, c0, hbw, hit, hc0, hmb, hcase⟩ := hrel
   rcases hcase with ⟨rfl, hnm⟩ | ⟨rfl, hnx⟩
   ·rcases run_next_at (P := Try.prog) wr 0 (nb + 1) b clk c0 #[] _ clk hit hmb (fun x hx => by simp at hx; rw [hx]; exact hlt) hc0 with ⟨h0, hrun⟩ | ⟨e, he, w3, hal, hrun⟩
    ·simp [leftOf] at h0
    ·obtain rfl : e = { key := .int .i64 k, val := v, born := born } := by simpa [leftOf] using he
     have k0 : Chg (fun q => q = nb + 1) wr (ChangeMaps.setBlock w3 (nb + 1) (.mapIter (some b) clk #[born] clk)) := by
      rcases hal with rfl | rfl
      ·exact A.setBlock_chgT _ _ _
      ·exact (Chg.drew _ wr).trans (A.setBlock_chgT _ _ _)
     have r1 : w3.heap[nb + 1]? = some (.mapIter (some b) clk #[] c0) := by rcases hal with rfl | rfl <;> exact hit
     obtain ⟨w4, hw4⟩ : ∃ w4, w4 = ChangeMaps.setBlock w3 (nb + 1) (.mapIter (some b) clk #[born] clk) := ⟨_, rfl⟩
     have g1 : w4.heap[nb + 1]? = some (.mapIter (some b) clk #[born] clk) := by rw [hw4]; exact (MapKept.heap_set r1).1
     rw [← hw4] at k0
     have g2 : Below w.heap.size w w4 := hbw.trans (k0.below hbw.size fun q _ hq => by subst hq; omega)
     have lb := lt_of_block hmb
     have ln := lt_of_block hnm
     have g3 : w4.heap[b]? = some (.map #[{ key := .int .i64 k, val := v, born := born }] clk) := (k0.block b lb (by omega)).trans hmb
     have g4 : w4.heap[nb]? = some (.map #[] 0) := (k0.block nb ln (by omega)).trans hnm
     have hent := run_entry_at (P := Try.prog) w4 (nb + 1) b clk #[] _ clk { key := .int .i64 k, val := v, born := born } g1 g3 (by simp) (by simp)
     have hms : (leftOf #[({ key := .int .i64 k, val := v, born := born } : MapEntry)] #[born]).size < wr.rangeLeft b (nb + 1) := by
      unfold World.rangeLeft; rw [hmb, hit]; simp [leftOf]
     have hrun2 : (Instr.next (.pointer (some ⟨nb + 1, 0, none⟩)) false 0).run Try.prog wr = .ok (.tuple #[.bool true, .int .i64 k, v]) w4 := by rw [hw4]; exact hrun
     have hcell := HX.out w4 g2 k (by omega)
     have HMS := Lib.hid hms
     have G1 := Lib.hid g1
     have G2 := Lib.hid g2
     have G3 := Lib.hid g3
     have G4 := Lib.hid g4
     obtain ⟨ae, ce, hce, hedge⟩ := hcell
     have HE := Lib.hid hedge
     clear hrun hw4 k0 r1 hal he hms g1 g2 g3 g4 hit hc0 hmb hnm lb ln hbw hedge
     dsimp only at hent
     by_cases hk2 : k < 2
     ·rw [if_pos hk2] at hce
      go_wp2_with fail
      obtain ⟨be, oe, rfl, e0, e1⟩ := HE.out hk2
      obtain ⟨t, ht⟩ : ∃ t : Int, t = ((k + 1 : Nat) : Int) := ⟨_, rfl⟩
      rw [← ht] at e1
      have HT := Lib.hid ht
      clear ht
      go_loopw [34] (fun q wr2 => ∃ qn : Nat, qn ≤ 1 ∧ q = .int .i64 qn ∧ Below w.heap.size w wr2 ∧ wr2.heap[nb + 1]? = some (.mapIter (some b) clk #[born] clk) ∧ wr2.heap[b]? = some (.map #[{ key := .int .i64 k, val := v, born := born }] clk) ∧ (qn = 0 → wr2.heap[nb]? = some (.map #[] 0) ∧ wr2.cell? ⟨be, oe, none⟩ = some (.int .i64 k) ∧ wr2.cell? ⟨be, oe + 1, none⟩ = some (.int .i64 t)) ∧ (qn = 1 → One wr2 nb t)) (fun q _ => 1 - (intOf q).toNat)
      case atStart => exact ⟨0, by omega, rfl, G2.out, G1.out, G3.out, fun _ => ⟨G4.out, e0, e1⟩, fun h => absurd h (by omega)⟩
      case round =>
       obtain ⟨qn, hqn, rfl, p1, p2, p3, p4, p5⟩ := hrel
       by_cases hq : qn = 0
       ·subst hq
        obtain ⟨p6, p7, p8⟩ := p4 rfl
        have hlt2 : nb + 1 < _ := lt_of_block p2
        obtain ⟨w5, hw5⟩ : ∃ w5, w5 = wr.alloc (.cells #[.int .i64 k, .int .i64 t] 39) := ⟨_, rfl⟩
        have b5 : Below w.heap.size w w5 := by rw [hw5]; exact p1.alloc p1.size _
        have z5 : wr.heap.size ≤ w5.heap.size := by rw [hw5]; simp
        have o5 : ∀ q, q < wr.heap.size → w5.heap[q]? = wr.heap[q]? := fun q hq => by rw [hw5]; exact heap_alloc_old _ _ hq
        have hs5 := HST.out w5 k b5 hk2
        rw [← HT.out] at hs5
        have ln := lt_of_block p6
        have lb := lt_of_block p3
        have P1 := Lib.hid p1
        have P2 := Lib.hid p2
        have P3 := Lib.hid p3
        have P6 := Lib.hid p6
        have B5 := Lib.hid b5
        have Z5 := Lib.hid z5
        have O5 := Lib.hid o5
        clear p1 p2 p3 p4 p5 p6 b5 z5 o5
        go_wp2_with fail
        rw [← hw5]
        clear hw5
        refine hs5.mono ?_
        clear hs5
        rintro e w6 ⟨rfl, hb6⟩
        have s6 : ∀ q, q < wr.heap.size → w6.heap[q]? = wr.heap[q]? := fun q hq => (hb6.block q (Nat.lt_of_lt_of_le hq Z5.out)).trans (O5.out q hq)
        have m6 : w6.heap[nb]? = some (.map #[] 0) := (s6 nb ln).trans P6.out
        have b6 : Below w.heap.size w w6 := B5.out.trans (hb6.mono B5.out.size)
        obtain ⟨te, hty, hz⟩ := A.map_tyI
        have hlk := A.run_lookup A.tok hty m6 (ks := []) rfl (by simp) (k := .int .i64 t) rfl false
        rw [hz] at hlk
        change (Instr.lookup 62 (.map (some nb)) (.int .i64 t) false).run Try.prog w6 = .ok (.int .i64 0) w6 at hlk
        have hadd : (binOp .add 3 (.int .i64 0) (.int .i64 1)).run Try.prog w6 = .ok (.int .i64 1) w6 := by rfl
        have hup := run_mapUpdate1 (P := Try.prog) 62 _ _ nb t (.int .i64 1) Try.underlying62 Try.underlying3 m6
        obtain ⟨w7, hw7⟩ : ∃ w7, w7 = ChangeMaps.setBlock w6 nb (.map #[{ key := .int .i64 t, val := .int .i64 1, born := 0 }] 1) := ⟨_, rfl⟩
        have c7 := A.setBlock_chgT w6 nb (.map #[{ key := .int .i64 t, val := .int .i64 1, born := 0 }] 1)
        rw [← hw7] at c7
        have g7 : w7.heap[nb]? = some (.map #[{ key := .int .i64 t, val := .int .i64 1, born := 0 }] 1) := by rw [hw7]; exact (MapKept.heap_set m6).1
        have b7 : Below w.heap.size w w7 := b6.trans (c7.below b6.size fun q _ hq => by subst hq; omega)
        have l6 : wr.heap.size ≤ w6.heap.size := Nat.le_trans Z5.out hb6.size
        have h71 : w7.heap[nb + 1]? = some (.mapIter (some b) clk #[born] clk) := (c7.block _ (by omega) (by omega)).trans ((s6 _ hlt2).trans P2.out)
        have h72 : w7.heap[b]? = some (.map #[{ key := .int .i64 k, val := v, born := born }] clk) := (c7.block _ (by omega) (by omega)).trans ((s6 _ lb).trans P3.out)
        have G7 := Lib.hid g7
        have B7 := Lib.hid b7
        have H71 := Lib.hid h71
        have H72 := Lib.hid h72
        clear s6 m6 b6 c7 g7 b7 l6 h71 h72 hb6 hty hz
        go_wp2_with fail
        rw [← hw7]
        go_roundw
        case rel =>
         exact ⟨1, by omega, rfl, B7.out, H71.out, H72.out, fun h => absurd h (by omega), fun _ => ⟨_, _, _, G7.out, Nat.one_pos⟩⟩
        case measure => simp [intOf]
       ·obtain rfl : qn = 1 := by omega
        have P1 := Lib.hid p1
        have P2 := Lib.hid p2
        have P3 := Lib.hid p3
        have P5 := Lib.hid (p5 rfl)
        clear p1 p2 p3 p4 p5
        go_wp2_with fail
        go_roundw
        case rel => exact ⟨#[born], clk, P1.out, P2.out, Nat.le_refl _, P3.out, .inr ⟨rfl, by unfold NextOk; rw [if_pos hk2, ← HT.out]; exact P5.out⟩⟩
        case measure =>
         unfold World.rangeLeft
         rw [P3.out, P2.out]
         exact HMS.out
     ·rw [if_neg hk2] at hce
      go_wp2_with fail
      go_loopw [34] (fun q wr2 => q = .int .i64 0 ∧ wr2 = w4) (fun q _ => 1)
      case atStart => exact ⟨rfl, rfl⟩
      case round =>
       obtain ⟨rfl, rfl⟩ := hrel
       go_wp2_with fail
       go_roundw
       case rel => exact ⟨#[born], clk, G2.out, G1.out, Nat.le_refl _, G3.out, .inr ⟨rfl, by unfold NextOk; rw [if_neg hk2]; exact G4.out⟩⟩
       case measure =>
        unfold World.rangeLeft
        rw [G3.out, G1.out]
        exact HMS.out
   ·rcases run_next_at (P := Try.prog) wr 0 (nb + 1) b clk c0 #[born] _ clk hit hmb (fun x hx => by simp at hx; rw [hx]; exact hlt) hc0 with ⟨h0, hrun⟩ | ⟨e, he, w3, hal, hrun⟩
    ·have HB := Lib.hid hbw
     unfold NextOk at hnx
     clear hit hc0 hmb h0
     by_cases hk2 : k < 2
     ·rw [if_pos hk2] at hnx
      have HN := Lib.hid hnx
      obtain ⟨v2, bn2, c2, hm2, hl2⟩ := hnx
      have hlen := run_lenMap (P := Try.prog) (ty := 3) Try.underlying62 hm2
      go_wp2_with fail
      go_roundw
      case rel => exact ⟨k + 1, nb, by omega, rfl, rfl, HB.out, q4, HN.out⟩
      case measure => simp [intOf]; omega
     ·rw [if_neg hk2] at hnx
      obtain rfl : k = 2 := by omega
      have hlen := run_lenMap (P := Try.prog) (ty := 3) Try.underlying62 hnx
      go_wp2_with fail
      go_ret
      exact ⟨rfl, HB.out⟩
    ·simp [leftOf] at he
end Go.Proofs.Ytcpcghnpoekhpaa
namespace Go.Proofs.Ytcpcghnpoekhpaa.A
open Go Go.RowKit
theorem c_DepthEx : (std Try.prog T).pc 20 [.v false [.sl (nM exT) (mC exT)]] (ret1 (.st (vI 2))) [] := by
 refine ⟨enters Try.func20 (by kernel_rfl) (by kernel_rfl), pc_of_calls rfl fun w S bx vs hlow hl ha => ?_⟩
 match vs, hl, ha with
 | [v], _, ha =>
  obtain ⟨c, hc, hr⟩ := ha 0 (by simp) (by simp)
  cases hc
  change CRep w S v _ at hr
  obtain ⟨B, off, cap, rfl, hx⟩ := ex_at hr
  refine (depth_any w S hlow B off cap hr hx).mono ?_
  rintro e w' ⟨rfl, hb⟩
  exact ⟨rfl, Chg.of_below hb _⟩
 | [], hl, _ => cases hl
 | _ :: _ :: _, hl, _ => cases hl
end Go.Proofs.Ytcpcghnpoekhpaa.A
/- Tries: the chapter's example: awake. -/
set_option linter.unusedSimpArgs false
set_option linter.unusedVariables false
set_option maxRecDepth 100000
set_option maxHeartbeats 4000000
namespace Go.Proofs.Ytcpcghnpoekhpaa.A
open Go
theorem gs_uniq {l m : List ByteArray} (hl : l.Pairwise fun a b => ltF a b = true) (hm : m.Pairwise fun a b => ltF a b = true) (h : ∀ x, x ∈ l ↔ x ∈ m) : l = m := by
 induction l generalizing m with
 | nil =>
  cases m with
  | nil => rfl
  | cons y m => exact absurd ((h y).2 (List.mem_cons_self ..)) (by simp)
 | cons x l ih =>
  cases m with
  | nil => exact absurd ((h x).1 (List.mem_cons_self ..)) (by simp)
  | cons y m =>
   obtain ⟨h1, h2⟩ := List.pairwise_cons.1 hl
   obtain ⟨h3, h4⟩ := List.pairwise_cons.1 hm
   have e : x = y := by
    rcases List.mem_cons.1 ((h x).1 (List.mem_cons_self ..)) with e | e
    ·exact e
    rcases List.mem_cons.1 ((h y).2 (List.mem_cons_self ..)) with e' | e'
    ·exact e'.symm
    have := ltF_trans (h1 y e') (h3 x e)
    rw [ltF_irr] at this; cases this
   subst e
   have hx : x ∉ l := fun hh => by have := h1 x hh; rw [ltF_irr] at this; cases this
   have hy : x ∉ m := fun hh => by have := h3 x hh; rw [ltF_irr] at this; cases this
   congr 1
   refine ih h2 h4 fun z => ⟨fun hz => ?_, fun hz => ?_⟩
   ·rcases List.mem_cons.1 ((h z).1 (List.mem_cons_of_mem _ hz)) with e | e
    ·subst e; exact absurd hz hx
    ·exact e
   ·rcases List.mem_cons.1 ((h z).2 (List.mem_cons_of_mem _ hz)) with e | e
    ·subst e; exact absurd hz hy
    ·exact e
def w0S : ByteArray := ⟨#[0]⟩
def w01S : ByteArray := ⟨#[0, 1]⟩
def w1S : ByteArray := ⟨#[1]⟩
def exRows : List Rw := [(0, w0S, 3), (0, w01S, 4)]
theorem ex_gs : gsR exRows = [ByteArray.empty, w0S, w01S] := by
 refine gs_uniq (FG_gsR exRows).so (by decide +kernel) fun x => ?_
 rw [(gsR_perm exRows).mem_iff]
 have e : frsY (begsL exRows) = [ByteArray.empty, w0S, w01S] := by decide +kernel
 rw [e]
theorem ex_tree : treeY (gsR exRows) (begsL exRows) = exT := by
 rw [ex_gs]
 decide +kernel
theorem ex_run1 : runMw exT w01S = 4 := by decide +kernel
theorem ex_run2 : runMw exT w1S = -1 := by decide +kernel
def bookA24 (MC : List C) : Book := fun f xs => match f, xs with
 | 8, [.v false [.sl _ _]] => some (ret1 (.tree shO (.sl 3 MC) none), [])
 | 12, [.v false [.sl _ _], .v false [.val (.string w)]] => some (ret1 (.st (vI (if w.size = 2 then 4 else -1))), [])
 | 20, [.v false [.sl _ _]] => some (ret1 (.st (vI 2)), [])
 | _, _ => none
theorem c_Run24T {m : List Sta} {w : ByteArray} (hs : SzM m) (hw : w.size < 4611686018427387904) (hv : ∀ i, i < m.length → ∀ e ∈ (mAt m i).2, 0 ≤ e.2 ∧ e.2 < m.length) : pc 12 [.v false [.sl (nM m) (mC m)], .v false [vS w]] (ret1 (.st (vI (runMw m w)))) :=
 ⟨enters Try.func12 (by kernel_rfl) (by kernel_rfl), pc_RunT m w hs hw hv⟩
theorem pc_awake24 : PC Try.prog T 7 [] (ret1 (.st (vB true))) [] := by
 have k1 : pc 8 [.v false [.sl 2 [vI 0, vS ⟨#[0]⟩, vI 3, vI 0, vS ⟨#[0, 1]⟩, vI 4]]] (ret1 (.tree shO (.sl 3 (mC exT)) none)) := by
  have := pc_Make24 exRows (by decide) (by decide)
  rw [ex_tree] at this
  exact ⟨enters Try.func8 (by kernel_rfl) (by kernel_rfl), this⟩
 have k2 : pc 12 [.v false [.sl 3 (mC exT)], .v false [vS ⟨#[0, 1]⟩]] (ret1 (.st (vI 4))) := by
  have := c_Run24T (m := exT) (w := w01S) exT_sz (by decide) exT_v
  rw [ex_run1] at this
  exact this
 have k3 : pc 12 [.v false [.sl 3 (mC exT)], .v false [vS ⟨#[1]⟩]] (ret1 (.st (vI (-1)))) := by
  have := c_Run24T (m := exT) (w := w1S) exT_sz (by decide) exT_v
  rw [ex_run2] at this
  exact this
 have k4 : pc 20 [.v false [.sl 3 (mC exT)]] (ret1 (.st (vI 2))) := c_DepthEx
 have ln : (mC exT).length = 6 := rfl
 have q0 : cellAt (mC exT) (0 * 2) = vI (-1) := rfl
 have q1 : cellAt (mC exT) (1 * 2) = vI 3 := rfl
 have q2 : cellAt (mC exT) (2 * 2) = vI 4 := rfl
 generalize mC exT = MC at *
 refine pc_of tok Try.func7 rfl (by rfl) ?_
 obtain ⟨j, hj⟩ : ∃ j : J, j = std Try.prog T := ⟨_, rfl⟩
 have hm : Try.prog.follows .mixedOrders = true := by kernel_rfl
 have tn0 : Int.toNat 0 = 0 := rfl
 have tn1 : Int.toNat 1 = 1 := rfl
 have tn2 : Int.toNat 2 = 2 := rfl
 have giv : ∀ x : Int, gi (vI x) = x := fun _ => rfl
 generalize y_mC : @mC = x_mC at *
 (repeat' first | ((first | with_reducible refine tr_cut (fun h => ?_) (fun h => ?_) | refine aw_condj (by cbv) (fun h => ?_) (fun h => ?_)) <;> (try simp (disch := omega) only [hj, std, cmpI, cmpB, satB, Bool.not_eq_true, Bool.not_eq_false, decide_eq_true_eq, decide_eq_false_iff_not, beq_iff_eq, bne_iff_ne, bne_eq_false_iff_eq, beq_eq_false_iff_ne, ne_eq, reduceCtorEq, not_true_eq_false, not_false_eq_true, pl0, if_true, cmpS_eq, cmpS_neq, Bool.not_eq_eq_eq_not, Bool.not_true, Bool.not_false, Bool.not_eq_true', q0, q1, q2, tn0, tn1, tn2, giv, add64, sub64] at h) <;> (try (exfalso; omega))) | (with_reducible refine tr_alt (fun h => ?_) ?_ <;> (try (exfalso; omega))) | (with_reducible first | refine tr_ob ?_ ?_ | refine tr_done ?_) | (refine aw_tr hj tok (bookA24 MC) (by cbv) ?_) | (refine aw_seq fun K hK => ?_) | (refine aw_tr1 hj tok (bookA24 MC) (by cbv) ?_) | (refine aw_skip ?_) | (refine aw_block ?_) | (refine aw_exit ?_) | (refine aw_ret ⟨.inr rfl, ret_okj hj (by cbv) ?_ ?_⟩) | (refine aw_ret ?_) | (with_reducible first | refine th_n ?_ | refine th_r ?_ | refine th_x ?_ | refine blk_n ?_ | refine blk_r ?_ | refine blk_x ?_ | refine blk_y rfl ?_) | (refine ⟨.inr rfl, ret_okj hj (by cbv) ?_ ?_⟩) | (refine ⟨.inl rfl, ret_okj hj (by cbv) ?_ ?_⟩) | (with_reducible apply_assumption -symm -exfalso only [*]))
 all_goals ((try subst y_mC))
 all_goals (try (repeat' first | with_reducible exact obl0 | with_reducible refine obl1 ?_ ?_))
 all_goals (try first | with_reducible exact True.intro | ((first | refine ob_pc hj ?_ | refine ob_pcn hj ?_); (try rw [hj]); first | exact k1 | exact k2 | exact k3 | exact k4) | ((first | refine ob_le hj ?_ | refine ob_lei hj ?_ | refine ob_inb hj ?_ | refine ob_pos hj ?_ | refine ob_ne0 hj ?_ | refine ob_eqb hj ?_); (first | rfl | first | omega | (simp only [hj, std]; split <;> omega) | (simp (disch := omega) only [hj, std, cmpI, cmpB, satB, add64, sub64, ite0, pl0, pl2, pl3, sb0, if_true, if_false, eq_self, ln] <;> omega) | (simp (disch := omega) [hj, std, cmpI, cmpB, satB, add64, sub64, ite0, pl0, pl2, pl3, sb0, if_true, if_false, eq_self, ln] <;> omega))) | ((refine ob_ok hj ?_; simp only [hj, std, tn0, tn1, tn2, q0, q1, q2]; exact ⟨_, rfl⟩)) | ((subst hj; exact rfl)))
end Go.Proofs.Ytcpcghnpoekhpaa.A
/- Machines, the reference: Valid, Out, Go, fits. -/
set_option linter.unusedSimpArgs false
set_option linter.unusedVariables false
set_option maxRecDepth 100000
set_option maxHeartbeats 4000000
namespace Go.Proofs.Ytcpcghnpoekhpaa.A
open Go
theorem rise_step {l : List Eg} {terms n q : Int} {k : Nat} (h : k < l.length) : riseG terms n q (l.drop k) = if q < (eAt l k).1 ∧ (eAt l k).1 < terms ∧ 0 ≤ (eAt l k).2 ∧ (eAt l k).2 < n then riseG terms n (eAt l k).1 (l.drop (k + 1)) else false := by
 rw [drop_eg h]; rfl
def preE (l : List Eg) (k : Nat) : Int := if k = 0 then -1 else (eAt l (k - 1)).1
theorem pc_Valid24 (m : List Sta) (terms : Int) (hs : SzM m) : PC Try.prog T 10 [.v false [.sl (nM m) (mC m)], .v false [vI terms]] (ret1 (.st (vB (validM m terms)))) [] := by
 have hn := nM_eq m
 have hc := mC_len m
 have ha := mC_at m
 have hd := @drop_st m
 have hz := @SzM.at m hs
 have hm1 := hs.1
 have hr0 : validM m terms = (validG terms (nM m) m && decide (0 < nM m)) := by rw [hn]; rfl
 generalize hR : validM m terms = R at hr0
 clear hR
 refine pc_of tok Try.func10 rfl (by rfl) ?_
 obtain ⟨j, hj⟩ : ∃ j : J, j = std Try.prog T := ⟨_, rfl⟩
 have hm : Try.prog.follows .mixedOrders = true := by kernel_rfl
 rcases Nat.eq_zero_or_pos (nM m) with h0 | h0
 ·have hE : R = false := by rw [hr0, decide_eq_false (by omega), Bool.and_false]
  generalize y_validG : @validG = x_validG at *
  generalize y_eC : @eC = x_eC at *
  generalize y_nE : @nE = x_nE at *
  generalize y_mC : @mC = x_mC at *
  generalize y_nM : @nM = x_nM at *
  (repeat' first | ((first | with_reducible refine tr_cut (fun h => ?_) (fun h => ?_) | refine aw_condj (by cbv) (fun h => ?_) (fun h => ?_)) <;> (try simp (disch := omega) only [hj, std, cmpI, cmpB, satB, Bool.not_eq_true, Bool.not_eq_false, decide_eq_true_eq, decide_eq_false_iff_not, beq_iff_eq, bne_iff_ne, bne_eq_false_iff_eq, beq_eq_false_iff_ne, ne_eq, reduceCtorEq, not_true_eq_false, not_false_eq_true, pl0, if_true, cmpS_eq, cmpS_neq, Bool.not_eq_eq_eq_not, Bool.not_true, Bool.not_false, Bool.not_eq_true', Int.ofNat_eq_natCast, add64, sub64] at h) <;> (try (exfalso; omega))) | (with_reducible refine tr_alt (fun h => ?_) ?_ <;> (try (exfalso; omega))) | (with_reducible first | refine tr_ob ?_ ?_ | refine tr_done ?_) | (refine aw_tr hj tok book0 (by cbv) ?_) | (refine aw_seq fun K hK => ?_) | (refine aw_tr1 hj tok book0 (by cbv) ?_) | (refine aw_skip ?_) | (refine aw_block ?_) | (refine aw_exit ?_) | (refine aw_ret ⟨.inr rfl, ret_okj hj (by cbv) ?_ ?_⟩) | (refine aw_ret ?_) | (with_reducible first | refine th_n ?_ | refine th_r ?_ | refine th_x ?_ | refine blk_n ?_ | refine blk_r ?_ | refine blk_x ?_ | refine blk_y rfl ?_) | (refine ⟨.inr rfl, ret_okj hj (by cbv) ?_ ?_⟩) | (refine ⟨.inl rfl, ret_okj hj (by cbv) ?_ ?_⟩) | (with_reducible refine ⟨_, by cbv, ?_, ?_⟩) | (with_reducible apply_assumption -symm -exfalso only [*]))
  all_goals ((try subst y_validG); (try subst y_eC); (try subst y_nE); (try subst y_mC); (try subst y_nM))
  all_goals (try (repeat' first | with_reducible exact obl0 | (with_reducible refine obl1 ?_ ?_)))
  all_goals (try first | with_reducible exact True.intro | ((first | refine ob_le hj ?_ | refine ob_lei hj ?_ | refine ob_inb hj ?_ | refine ob_pos hj ?_ | refine ob_ne0 hj ?_ | refine ob_eqb hj ?_); (first | rfl | first | omega | (simp only [hj, std]; split <;> omega) | (simp (disch := omega) only [hj, std, cmpI, cmpB, satB, add64, sub64, ite0, pl0, pl2, pl3, sb0, if_true, if_false, eq_self] <;> omega) | (simp (disch := omega) [hj, std, cmpI, cmpB, satB, add64, sub64, ite0, pl0, pl2, pl3, sb0, if_true, if_false, eq_self] <;> omega))) | ((rw [hE]; exact rfl)))
 have hr0 : R = validG terms (nM m) m := by rw [hr0, decide_eq_true h0, Bool.and_true]
 generalize y_validG : @validG = x_validG at *
 generalize y_eC : @eC = x_eC at *
 generalize y_nE : @nE = x_nE at *
 generalize y_mC : @mC = x_mC at *
 generalize y_nM : @nM = x_nM at *
 (repeat' first | ((first | with_reducible refine tr_cut (fun h => ?_) (fun h => ?_) | refine aw_condj (by cbv) (fun h => ?_) (fun h => ?_)) <;> (try simp (disch := omega) only [hj, std, cmpI, cmpB, satB, Bool.not_eq_true, Bool.not_eq_false, decide_eq_true_eq, decide_eq_false_iff_not, beq_iff_eq, bne_iff_ne, bne_eq_false_iff_eq, beq_eq_false_iff_ne, ne_eq, reduceCtorEq, not_true_eq_false, not_false_eq_true, pl0, if_true, cmpS_eq, cmpS_neq, Bool.not_eq_eq_eq_not, Bool.not_true, Bool.not_false, Bool.not_eq_true', Int.ofNat_eq_natCast, add64, sub64] at h) <;> (try (exfalso; omega))) | (with_reducible refine tr_alt (fun h => ?_) ?_ <;> (try (exfalso; omega))) | (with_reducible first | refine tr_ob ?_ ?_ | refine tr_done ?_) | (refine aw_tr hj tok book0 (by cbv) ?_) | (refine aw_seq fun K hK => ?_) | (refine aw_tr1 hj tok book0 (by cbv) ?_) | (refine aw_skip ?_) | (refine aw_block ?_) | (refine aw_exit ?_) | (refine aw_ret ⟨.inr rfl, ret_okj hj (by cbv) ?_ ?_⟩) | (refine aw_ret ?_) | (with_reducible first | refine th_n ?_ | refine th_r ?_ | refine th_x ?_ | refine blk_n ?_ | refine blk_r ?_ | refine blk_x ?_ | refine blk_y rfl ?_) | (refine ⟨.inr rfl, ret_okj hj (by cbv) ?_ ?_⟩) | (refine ⟨.inl rfl, ret_okj hj (by cbv) ?_ ?_⟩) | (with_reducible refine ⟨_, by cbv, ?_, ?_⟩) | (with_reducible apply_assumption -symm -exfalso only [*]))
 all_goals ((try subst y_validG); (try subst y_eC); (try subst y_nE); (try subst y_mC); (try subst y_nM))
 all_goals (try (repeat' first | with_reducible exact obl0 | (with_reducible refine obl1 ?_ ?_)))
 all_goals (try first | with_reducible exact True.intro | ((first | refine ob_le hj ?_ | refine ob_lei hj ?_ | refine ob_inb hj ?_ | refine ob_pos hj ?_ | refine ob_ne0 hj ?_ | refine ob_eqb hj ?_); (first | rfl | first | omega | (simp only [hj, std]; split <;> omega) | (simp (disch := omega) only [hj, std, cmpI, cmpB, satB, add64, sub64, ite0, pl0, pl2, pl3, sb0, if_true, if_false, eq_self] <;> omega) | (simp (disch := omega) [hj, std, cmpI, cmpB, satB, add64, sub64, ite0, pl0, pl2, pl3, sb0, if_true, if_false, eq_self] <;> omega))))
 refine aw_lpj hj [(0, .keep), (1, .keep), (5, .keep)] [] (fun (k : Int) => stOf 81 [(0, .one (.c (.sl (nM m) (mC m)))), (1, .one (.c (vI terms))), (5, .one (.c (vI k)))] []) (fun (k : Int) => nM m - k.toNat) (fun (k : Int) => 0 ≤ k ∧ k ≤ nM m ∧ R = validG terms (nM m) (m.drop k.toNat)) (0) (by generalize @validG = x_validG; generalize @eC = x_eC; generalize @nE = x_nE; generalize @mC = x_mC; generalize @nM = x_nM; cbv) ?_ (fun k hI => ?_)
 ·exact ⟨by omega, by omega, hr0⟩
 obtain ⟨i1, i2, hI⟩ := hI
 rcases Decidable.em (k < (nM m : Int)) with hk | hk
 ·obtain ⟨c0, c1⟩ := ha k.toNat (by omega)
  have hz := hz (k := k.toNat) (by omega)
  have f1 : (k + 1).toNat = k.toNat + 1 := by omega
  rw [hd (k := k.toNat) (by omega), ← f1] at hI
  have g0 : gi (cellAt (mC m) (k.toNat * 2)) = (mAt m k.toNat).1 := by rw [c0]; rfl
  have g1 : gn (cellAt (mC m) (k.toNat * 2 + 1)) = nE (mAt m k.toNat).2 := by rw [c1]; rfl
  have g2 : gc (cellAt (mC m) (k.toNat * 2 + 1)) = eC (mAt m k.toNat).2 := by rw [c1]; rfl
  generalize mAt m k.toNat = X at *
  obtain ⟨a, b⟩ := X
  dsimp only at c0 c1 g0 g1 g2 hz
  have hI2 : R = (if -1 ≤ a ∧ riseG terms (nM m) (-1) b = true then validG terms (nM m) (m.drop (k + 1).toNat) else false) := hI
  have hyes : -1 ≤ a → riseG terms (nM m) (-1) b = true → R = validG terms (nM m) (m.drop (k + 1).toNat) := fun h h2 => by rw [hI2, if_pos ⟨h, h2⟩]
  have hno : a < -1 → R = false := fun h => by rw [hI2, if_neg (fun h2 => by omega)]
  have hno2 : riseG terms (nM m) (-1) b = false → R = false := fun h => by rw [hI2, if_neg (fun h2 => by rw [h] at h2; cases h2.2)]
  have hbn := nE_eq b
  have hbc := eC_len b
  have hba := eC_at b
  clear hI hI2 ha hd
  generalize y_validG : @validG = x_validG at *
  generalize y_eC : @eC = x_eC at *
  generalize y_nE : @nE = x_nE at *
  generalize y_mC : @mC = x_mC at *
  generalize y_nM : @nM = x_nM at *
  (repeat' first | ((first | with_reducible refine tr_cut (fun h => ?_) (fun h => ?_) | refine aw_condj (by cbv) (fun h => ?_) (fun h => ?_)) <;> (try simp (disch := omega) only [hj, std, cmpI, cmpB, satB, Bool.not_eq_true, Bool.not_eq_false, decide_eq_true_eq, decide_eq_false_iff_not, beq_iff_eq, bne_iff_ne, bne_eq_false_iff_eq, beq_eq_false_iff_ne, ne_eq, reduceCtorEq, not_true_eq_false, not_false_eq_true, pl0, if_true, cmpS_eq, cmpS_neq, Bool.not_eq_eq_eq_not, Bool.not_true, Bool.not_false, Bool.not_eq_true', g0, ite0, Int.ofNat_eq_natCast, add64, sub64] at h) <;> (try (exfalso; omega))) | (with_reducible refine tr_alt (fun h => ?_) ?_ <;> (try (exfalso; omega))) | (with_reducible first | refine tr_ob ?_ ?_ | refine tr_done ?_) | (refine aw_tr hj tok book0 (by cbv) ?_) | (refine aw_seq fun K hK => ?_) | (refine aw_tr1 hj tok book0 (by cbv) ?_) | (refine aw_skip ?_) | (refine aw_block ?_) | (refine aw_exit ?_) | (refine aw_ret ⟨.inr rfl, ret_okj hj (by cbv) ?_ ?_⟩) | (refine aw_ret ?_) | (with_reducible first | refine th_n ?_ | refine th_r ?_ | refine th_x ?_ | refine blk_n ?_ | refine blk_r ?_ | refine blk_x ?_ | refine blk_y rfl ?_) | (refine ⟨.inr rfl, ret_okj hj (by cbv) ?_ ?_⟩) | (refine ⟨.inl rfl, ret_okj hj (by cbv) ?_ ?_⟩) | (with_reducible refine ⟨_, by cbv, ?_, ?_⟩) | (with_reducible apply_assumption -symm -exfalso only [*]))
  all_goals ((try subst y_validG); (try subst y_eC); (try subst y_nE); (try subst y_mC); (try subst y_nM))
  all_goals (try (repeat' first | with_reducible exact obl0 | (with_reducible refine obl1 ?_ ?_)))
  all_goals (try first | with_reducible exact True.intro | ((first | refine ob_le hj ?_ | refine ob_lei hj ?_ | refine ob_inb hj ?_ | refine ob_pos hj ?_ | refine ob_ne0 hj ?_ | refine ob_eqb hj ?_); (first | rfl | first | omega | (simp only [hj, std]; split <;> omega) | (simp (disch := omega) only [hj, std, cmpI, cmpB, satB, add64, sub64, ite0, pl0, pl2, pl3, sb0, if_true, if_false, eq_self, hc, g0] <;> omega) | (simp (disch := omega) [hj, std, cmpI, cmpB, satB, add64, sub64, ite0, pl0, pl2, pl3, sb0, if_true, if_false, eq_self, hc, g0] <;> omega))) | ((refine ob_ok hj ?_; simp only [hj, std, ite0]; first | exact ⟨_, c0⟩ | exact .inr ⟨_, _, c1⟩)) | ((rw [hno (by omega)]; exact rfl)))
  refine aw_lpj hj [(0, .keep), (1, .keep), (5, .keep), (6, .keep)] [] (fun (i : Int) => stOf 81 [(0, .one (.c (.sl (nM m) (mC m)))), (1, .one (.c (vI terms))), (5, .one (.c (vI k))), (6, .one (.c (vI i)))] []) (fun (i : Int) => nE b - i.toNat) (fun (i : Int) => 0 ≤ i ∧ i ≤ nE b ∧ riseG terms (nM m) (-1) b = riseG terms (nM m) (preE b i.toNat) (b.drop i.toNat) ∧ (0 < i → 0 ≤ preE b i.toNat)) (0) (by generalize @validG = x_validG; generalize @eC = x_eC; generalize @nE = x_nE; generalize @mC = x_mC; generalize @nM = x_nM; cbv) ?_ (fun i hI => ?_)
  ·exact ⟨by omega, by omega, rfl, fun h => absurd h (by omega)⟩
  obtain ⟨q1, q2, hQ, hQ0⟩ := hI
  rcases Decidable.em (i < (nE b : Int)) with hi | hi
  ·obtain ⟨d0, d1⟩ := hba i.toNat (by omega)
   have f2 : (i + 1).toNat = i.toNat + 1 := by omega
   rw [rise_step (by omega)] at hQ
   have u0 : gi (cellAt (eC b) (i.toNat * 2)) = (eAt b i.toNat).1 := by rw [d0]; rfl
   have u1 : gi (cellAt (eC b) (i.toNat * 2 + 1)) = (eAt b i.toNat).2 := by rw [d1]; rfl
   have f3 : preE b (i.toNat + 1) = (eAt b i.toNat).1 := by unfold preE; rw [if_neg (by omega)]; rfl
   have hp0 : i = 0 → preE b i.toNat = -1 := fun h => by subst h; rfl
   have hp1 : 0 < i → okK (.int .i64) (cellAt (eC b) ((i - 1).toNat * 2)) ∧ gi (cellAt (eC b) ((i - 1).toNat * 2)) = preE b i.toNat := fun h => by
    obtain ⟨d2, _⟩ := hba (i - 1).toNat (by omega)
    refine ⟨⟨_, d2⟩, ?_⟩
    rw [d2]
    unfold preE
    rw [if_neg (by omega), show i.toNat - 1 = (i - 1).toNat by omega]; rfl
   rw [← f3, ← f2] at hQ
   generalize eAt b i.toNat = X at *
   obtain ⟨s, t⟩ := X
   dsimp only at d0 d1 u0 u1 f3 hQ
   generalize preE b i.toNat = pq at *
   rw [← f2] at f3
   have f4 : preE b (i + 1).toNat = s := f3
   rw [f3] at hQ
   clear f3
   obtain ⟨pr, rfl⟩ : ∃ pr, pr = s := ⟨_, rfl⟩
   have hq1 : (pq < pr ∧ pr < terms ∧ 0 ≤ t ∧ t < (nM m : Int)) → riseG terms (nM m) (-1) b = riseG terms (nM m) pr (b.drop (i + 1).toNat) := fun h => by rw [hQ, if_pos h]
   have hq2 : ¬ (pq < pr ∧ pr < terms ∧ 0 ≤ t ∧ t < (nM m : Int)) → R = false := fun h => hno2 (by rw [hQ, if_neg h])
   clear hQ hba hyes hno hno2
   rcases Decidable.em (0 < i) with hip | hip
   ·obtain ⟨p1, p2⟩ := hp1 hip
    have hQ0 := hQ0 hip
    clear hp0 hp1
    generalize y_validG : @validG = x_validG at *
    generalize y_eC : @eC = x_eC at *
    generalize y_nE : @nE = x_nE at *
    generalize y_mC : @mC = x_mC at *
    generalize y_nM : @nM = x_nM at *
    (repeat' first | ((first | with_reducible refine tr_cut (fun h => ?_) (fun h => ?_) | refine aw_condj (by cbv) (fun h => ?_) (fun h => ?_)) <;> (try simp (disch := omega) only [hj, std, cmpI, cmpB, satB, Bool.not_eq_true, Bool.not_eq_false, decide_eq_true_eq, decide_eq_false_iff_not, beq_iff_eq, bne_iff_ne, bne_eq_false_iff_eq, beq_eq_false_iff_ne, ne_eq, reduceCtorEq, not_true_eq_false, not_false_eq_true, pl0, if_true, cmpS_eq, cmpS_neq, Bool.not_eq_eq_eq_not, Bool.not_true, Bool.not_false, Bool.not_eq_true', g0, g1, g2, u0, u1, p2, ite0, sub64, Int.ofNat_eq_natCast, add64, sub64] at h) <;> (try (exfalso; omega))) | (with_reducible refine tr_alt (fun h => ?_) ?_ <;> (try (exfalso; omega))) | (with_reducible first | refine tr_ob ?_ ?_ | refine tr_done ?_) | (refine aw_dr1 (id := 12) hj tok hm book0 true [(0, true), (1, true), (2, true), (3, true), (4, false), (5, false), (6, true), (7, true), (8, true), (9, true), (10, true), (11, true), (12, true), (13, true), (14, true), (15, false), (16, false), (17, true), (18, true), (19, true), (20, true), (21, true), (22, true), (23, true), (24, true), (25, false), (26, false), (27, false), (28, false), (29, false), (30, false), (31, false), (32, true), (33, true), (34, true), (35, true), (36, true), (37, true), (38, true), (39, true)] (by kernel_rfl) (by cbv) ?_) | (refine aw_dr (id := 12) hj tok hm book0 true [(0, true), (1, true), (2, true), (3, true), (4, false), (5, false), (6, true), (7, true), (8, true), (9, true), (10, true), (11, true), (12, true), (13, true), (14, true), (15, false), (16, false), (17, true), (18, true), (19, true), (20, true), (21, true), (22, true), (23, true), (24, true), (25, false), (26, false), (27, false), (28, false), (29, false), (30, false), (31, false), (32, true), (33, true), (34, true), (35, true), (36, true), (37, true), (38, true), (39, true)] (by kernel_rfl) (by cbv) ?_) | (refine aw_tr hj tok book0 (by cbv) ?_) | (refine aw_seq fun K hK => ?_) | (refine aw_tr1 hj tok book0 (by cbv) ?_) | (refine aw_skip ?_) | (refine aw_block ?_) | (refine aw_exit ?_) | (refine aw_ret ⟨.inr rfl, ret_okj hj (by cbv) ?_ ?_⟩) | (refine aw_ret ?_) | (with_reducible first | refine th_n ?_ | refine th_r ?_ | refine th_x ?_ | refine blk_n ?_ | refine blk_r ?_ | refine blk_x ?_ | refine blk_y rfl ?_) | (refine ⟨.inr rfl, ret_okj hj (by cbv) ?_ ?_⟩) | (refine ⟨.inl rfl, ret_okj hj (by cbv) ?_ ?_⟩) | (with_reducible refine ⟨_, by cbv, ?_, ?_⟩) | (with_reducible apply_assumption -symm -exfalso only [*]))
    all_goals ((try subst y_validG); (try subst y_eC); (try subst y_nE); (try subst y_mC); (try subst y_nM))
    all_goals (try (repeat' first | with_reducible exact obl0 | (with_reducible refine obl1 ?_ ?_)))
    all_goals (try first | with_reducible exact True.intro | ((first | refine ob_le hj ?_ | refine ob_lei hj ?_ | refine ob_inb hj ?_ | refine ob_pos hj ?_ | refine ob_ne0 hj ?_ | refine ob_eqb hj ?_); (first | rfl | first | omega | (simp only [hj, std]; split <;> omega) | (simp (disch := omega) only [hj, std, cmpI, cmpB, satB, add64, sub64, ite0, pl0, pl2, pl3, sb0, if_true, if_false, eq_self, hc, hbc, g0, g1, g2, u0, u1, p2] <;> omega) | (simp (disch := omega) [hj, std, cmpI, cmpB, satB, add64, sub64, ite0, pl0, pl2, pl3, sb0, if_true, if_false, eq_self, hc, hbc, g0, g1, g2, u0, u1, p2] <;> omega))) | ((refine ob_ok hj ?_; simp (disch := omega) only [hj, std, sub64, ite0, g1, g2]; first | exact ⟨_, c0⟩ | exact .inr ⟨_, _, c1⟩ | exact ⟨_, d0⟩ | exact ⟨_, d1⟩ | exact p1)) | ((rw [hq2 (by omega)]; exact rfl)) | ((simp (disch := omega) only [hj, std, add64, ite0]; first | omega | (rw [f4]; exact ⟨by omega, by omega, hq1 (by omega), fun _ => by omega⟩))))
   ·have hp0 := hp0 (by omega)
    clear hp1 hQ0
    generalize y_validG : @validG = x_validG at *
    generalize y_eC : @eC = x_eC at *
    generalize y_nE : @nE = x_nE at *
    generalize y_mC : @mC = x_mC at *
    generalize y_nM : @nM = x_nM at *
    (repeat' first | ((first | with_reducible refine tr_cut (fun h => ?_) (fun h => ?_) | refine aw_condj (by cbv) (fun h => ?_) (fun h => ?_)) <;> (try simp (disch := omega) only [hj, std, cmpI, cmpB, satB, Bool.not_eq_true, Bool.not_eq_false, decide_eq_true_eq, decide_eq_false_iff_not, beq_iff_eq, bne_iff_ne, bne_eq_false_iff_eq, beq_eq_false_iff_ne, ne_eq, reduceCtorEq, not_true_eq_false, not_false_eq_true, pl0, if_true, cmpS_eq, cmpS_neq, Bool.not_eq_eq_eq_not, Bool.not_true, Bool.not_false, Bool.not_eq_true', g0, g1, g2, u0, u1, ite0, Int.ofNat_eq_natCast, add64, sub64] at h) <;> (try (exfalso; omega))) | (with_reducible refine tr_alt (fun h => ?_) ?_ <;> (try (exfalso; omega))) | (with_reducible first | refine tr_ob ?_ ?_ | refine tr_done ?_) | (refine aw_dr1 (id := 12) hj tok hm book0 true [(0, true), (1, true), (2, true), (3, true), (4, false), (5, false), (6, true), (7, true), (8, true), (9, true), (10, true), (11, true), (12, true), (13, true), (14, true), (15, false), (16, false), (17, true), (18, true), (19, true), (20, true), (21, true), (22, true), (23, true), (24, true), (25, false), (26, false), (27, false), (28, false), (29, false), (30, false), (31, false), (32, true), (33, true), (34, true), (35, true), (36, true), (37, true), (38, true), (39, true)] (by kernel_rfl) (by cbv) ?_) | (refine aw_dr (id := 12) hj tok hm book0 true [(0, true), (1, true), (2, true), (3, true), (4, false), (5, false), (6, true), (7, true), (8, true), (9, true), (10, true), (11, true), (12, true), (13, true), (14, true), (15, false), (16, false), (17, true), (18, true), (19, true), (20, true), (21, true), (22, true), (23, true), (24, true), (25, false), (26, false), (27, false), (28, false), (29, false), (30, false), (31, false), (32, true), (33, true), (34, true), (35, true), (36, true), (37, true), (38, true), (39, true)] (by kernel_rfl) (by cbv) ?_) | (refine aw_tr hj tok book0 (by cbv) ?_) | (refine aw_seq fun K hK => ?_) | (refine aw_tr1 hj tok book0 (by cbv) ?_) | (refine aw_skip ?_) | (refine aw_block ?_) | (refine aw_exit ?_) | (refine aw_ret ⟨.inr rfl, ret_okj hj (by cbv) ?_ ?_⟩) | (refine aw_ret ?_) | (with_reducible first | refine th_n ?_ | refine th_r ?_ | refine th_x ?_ | refine blk_n ?_ | refine blk_r ?_ | refine blk_x ?_ | refine blk_y rfl ?_) | (refine ⟨.inr rfl, ret_okj hj (by cbv) ?_ ?_⟩) | (refine ⟨.inl rfl, ret_okj hj (by cbv) ?_ ?_⟩) | (with_reducible refine ⟨_, by cbv, ?_, ?_⟩) | (with_reducible apply_assumption -symm -exfalso only [*]))
    all_goals ((try subst y_validG); (try subst y_eC); (try subst y_nE); (try subst y_mC); (try subst y_nM))
    all_goals (try (repeat' first | with_reducible exact obl0 | (with_reducible refine obl1 ?_ ?_)))
    all_goals (try first | with_reducible exact True.intro | ((first | refine ob_le hj ?_ | refine ob_lei hj ?_ | refine ob_inb hj ?_ | refine ob_pos hj ?_ | refine ob_ne0 hj ?_ | refine ob_eqb hj ?_); (first | rfl | first | omega | (simp only [hj, std]; split <;> omega) | (simp (disch := omega) only [hj, std, cmpI, cmpB, satB, add64, sub64, ite0, pl0, pl2, pl3, sb0, if_true, if_false, eq_self, hc, hbc, g0, g1, g2, u0, u1] <;> omega) | (simp (disch := omega) [hj, std, cmpI, cmpB, satB, add64, sub64, ite0, pl0, pl2, pl3, sb0, if_true, if_false, eq_self, hc, hbc, g0, g1, g2, u0, u1] <;> omega))) | ((refine ob_ok hj ?_; simp only [hj, std, ite0, g1, g2]; first | exact ⟨_, c0⟩ | exact .inr ⟨_, _, c1⟩ | exact ⟨_, d0⟩ | exact ⟨_, d1⟩)) | ((rw [hq2 (by omega)]; exact rfl)) | ((simp (disch := omega) only [hj, std, add64, ite0]; first | omega | (rw [f4]; exact ⟨by omega, by omega, hq1 (by omega), fun _ => by omega⟩))))
  ·have e : i.toNat = b.length := by omega
   rw [e, List.drop_length] at hQ
   have hQ : riseG terms (nM m) (-1) b = true := hQ
   have hyes := fun h => hyes h hQ
   generalize y_validG : @validG = x_validG at *
   generalize y_eC : @eC = x_eC at *
   generalize y_nE : @nE = x_nE at *
   generalize y_mC : @mC = x_mC at *
   generalize y_nM : @nM = x_nM at *
   (repeat' first | ((first | with_reducible refine tr_cut (fun h => ?_) (fun h => ?_) | refine aw_condj (by cbv) (fun h => ?_) (fun h => ?_)) <;> (try simp (disch := omega) only [hj, std, cmpI, cmpB, satB, Bool.not_eq_true, Bool.not_eq_false, decide_eq_true_eq, decide_eq_false_iff_not, beq_iff_eq, bne_iff_ne, bne_eq_false_iff_eq, beq_eq_false_iff_ne, ne_eq, reduceCtorEq, not_true_eq_false, not_false_eq_true, pl0, if_true, cmpS_eq, cmpS_neq, Bool.not_eq_eq_eq_not, Bool.not_true, Bool.not_false, Bool.not_eq_true', g1, ite0, Int.ofNat_eq_natCast, add64, sub64] at h) <;> (try (exfalso; omega))) | (with_reducible refine tr_alt (fun h => ?_) ?_ <;> (try (exfalso; omega))) | (with_reducible first | refine tr_ob ?_ ?_ | refine tr_done ?_) | (refine aw_tr hj tok book0 (by cbv) ?_) | (refine aw_seq fun K hK => ?_) | (refine aw_tr1 hj tok book0 (by cbv) ?_) | (refine aw_skip ?_) | (refine aw_block ?_) | (refine aw_exit ?_) | (refine aw_ret ⟨.inr rfl, ret_okj hj (by cbv) ?_ ?_⟩) | (refine aw_ret ?_) | (with_reducible first | refine th_n ?_ | refine th_r ?_ | refine th_x ?_ | refine blk_n ?_ | refine blk_r ?_ | refine blk_x ?_ | refine blk_y rfl ?_) | (refine ⟨.inr rfl, ret_okj hj (by cbv) ?_ ?_⟩) | (refine ⟨.inl rfl, ret_okj hj (by cbv) ?_ ?_⟩) | (with_reducible refine ⟨_, by cbv, ?_, ?_⟩) | (with_reducible apply_assumption -symm -exfalso only [*]))
   all_goals ((try subst y_validG); (try subst y_eC); (try subst y_nE); (try subst y_mC); (try subst y_nM))
   all_goals (try (repeat' first | with_reducible exact obl0 | (with_reducible refine obl1 ?_ ?_)))
   all_goals (try first | with_reducible exact True.intro | ((first | refine ob_le hj ?_ | refine ob_lei hj ?_ | refine ob_inb hj ?_ | refine ob_pos hj ?_ | refine ob_ne0 hj ?_ | refine ob_eqb hj ?_); (first | rfl | first | omega | (simp only [hj, std]; split <;> omega) | (simp (disch := omega) only [hj, std, cmpI, cmpB, satB, add64, sub64, ite0, pl0, pl2, pl3, sb0, if_true, if_false, eq_self, hc, g1] <;> omega) | (simp (disch := omega) [hj, std, cmpI, cmpB, satB, add64, sub64, ite0, pl0, pl2, pl3, sb0, if_true, if_false, eq_self, hc, g1] <;> omega))) | ((refine ob_ok hj ?_; simp only [hj, std, ite0, g1, g2]; first | exact ⟨_, c0⟩ | exact .inr ⟨_, _, c1⟩)) | ((simp (disch := omega) only [hj, std, add64, ite0]; first | omega | exact ⟨by omega, by omega, hyes (by omega)⟩)))
 ·have e : k.toNat = m.length := by omega
  rw [e, List.drop_length] at hI
  have hE : R = true := hI
  generalize y_validG : @validG = x_validG at *
  generalize y_eC : @eC = x_eC at *
  generalize y_nE : @nE = x_nE at *
  generalize y_mC : @mC = x_mC at *
  generalize y_nM : @nM = x_nM at *
  (repeat' first | ((first | with_reducible refine tr_cut (fun h => ?_) (fun h => ?_) | refine aw_condj (by cbv) (fun h => ?_) (fun h => ?_)) <;> (try simp (disch := omega) only [hj, std, cmpI, cmpB, satB, Bool.not_eq_true, Bool.not_eq_false, decide_eq_true_eq, decide_eq_false_iff_not, beq_iff_eq, bne_iff_ne, bne_eq_false_iff_eq, beq_eq_false_iff_ne, ne_eq, reduceCtorEq, not_true_eq_false, not_false_eq_true, pl0, if_true, cmpS_eq, cmpS_neq, Bool.not_eq_eq_eq_not, Bool.not_true, Bool.not_false, Bool.not_eq_true', Int.ofNat_eq_natCast, add64, sub64] at h) <;> (try (exfalso; omega))) | (with_reducible refine tr_alt (fun h => ?_) ?_ <;> (try (exfalso; omega))) | (with_reducible first | refine tr_ob ?_ ?_ | refine tr_done ?_) | (refine aw_tr hj tok book0 (by cbv) ?_) | (refine aw_seq fun K hK => ?_) | (refine aw_tr1 hj tok book0 (by cbv) ?_) | (refine aw_skip ?_) | (refine aw_block ?_) | (refine aw_exit ?_) | (refine aw_ret ⟨.inr rfl, ret_okj hj (by cbv) ?_ ?_⟩) | (refine aw_ret ?_) | (with_reducible first | refine th_n ?_ | refine th_r ?_ | refine th_x ?_ | refine blk_n ?_ | refine blk_r ?_ | refine blk_x ?_ | refine blk_y rfl ?_) | (refine ⟨.inr rfl, ret_okj hj (by cbv) ?_ ?_⟩) | (refine ⟨.inl rfl, ret_okj hj (by cbv) ?_ ?_⟩) | (with_reducible refine ⟨_, by cbv, ?_, ?_⟩) | (with_reducible apply_assumption -symm -exfalso only [*]))
  all_goals ((try subst y_validG); (try subst y_eC); (try subst y_nE); (try subst y_mC); (try subst y_nM))
  all_goals (try (repeat' first | with_reducible exact obl0 | with_reducible refine obl1 ?_ ?_))
  all_goals (try first | with_reducible exact True.intro | ((first | refine ob_le hj ?_ | refine ob_lei hj ?_ | refine ob_inb hj ?_ | refine ob_pos hj ?_ | refine ob_ne0 hj ?_ | refine ob_eqb hj ?_); (first | rfl | first | omega | (simp only [hj, std]; split <;> omega) | (simp (disch := omega) only [hj, std, cmpI, cmpB, satB, add64, sub64, ite0, pl0, pl2, pl3, sb0, if_true, if_false, eq_self] <;> omega) | (simp (disch := omega) [hj, std, cmpI, cmpB, satB, add64, sub64, ite0, pl0, pl2, pl3, sb0, if_true, if_false, eq_self] <;> omega))) | ((rw [hE]; exact rfl)))
end Go.Proofs.Ytcpcghnpoekhpaa.A
/- TrieTells: the law's walk. -/
set_option linter.unusedSimpArgs false
set_option linter.unusedVariables false
set_option maxRecDepth 100000
set_option maxHeartbeats 4000000
namespace Go.Proofs.Ytcpcghnpoekhpaa.A
open Go
set_option linter.unusedVariables false
/-! ### the tree of few rows -/
abbrev trM (l : List Rw) : List Sta := treeY (gsR l) (begsL l)
theorem gsR_few {l : List Rw} (hl : l.length ≤ 30) (hw : ∀ x ∈ l, x.2.1.size ≤ 6) : (gsR l).length ≤ 211 := by
 have h1 : (gsR l).length = (frsY (begsL l)).length := (gsR_perm l).length_eq
 have h2 := frsY_len (begsL l)
 have h3 : ∀ l : List Rw, (∀ x ∈ l, x.2.1.size ≤ 6) → (begsL l).length ≤ l.length * 7 := by
  intro l
  induction l with
  | nil => intro _; simp [begsL]
  | cons x l ih =>
   intro hw
   have h1 := hw x (List.mem_cons_self ..)
   have h2 := ih fun y hy => hw y (List.mem_cons_of_mem _ hy)
   unfold begsL at h2 ⊢
   rw [List.flatMap_cons, List.length_append, List.length_cons]
   have : (begsK x (x.2.1.size + 1)).length = x.2.1.size + 1 := by unfold begsK; simp
   omega
 have := h3 l hw
 omega
theorem trM_mem {l : List Rw} {s : Sta} (h : s ∈ trM l) : ∃ b ∈ gsR l, s = (outY (begsL l) b, chilG b 0 (gsR l)) := by
 obtain ⟨b, hb, rfl⟩ := List.mem_map.1 h
 exact ⟨b, hb, rfl⟩
theorem trM_sz {l : List Rw} (hl : l.length ≤ 30) (hw : ∀ x ∈ l, x.2.1.size ≤ 6) : (trM l).length ≤ 211 ∧ ∀ s ∈ trM l, s.2.length ≤ 211 := by
 have h := gsR_few hl hw
 refine ⟨by rw [treeY_len]; exact h, fun s hs => ?_⟩
 obtain ⟨b, _, rfl⟩ := trM_mem hs
 exact Nat.le_trans (chilG_len _ _ _) h
theorem validG_of {terms n : Int} : ∀ m : List Sta, (∀ s ∈ m, -1 ≤ s.1 ∧ riseM s.2 terms n = true) → validG terms n m = true
 | [], _ => rfl
 | s :: m, h => by
  unfold validG
  rw [if_pos (h s (List.mem_cons_self ..))]
  exact validG_of m fun x hx => h x (List.mem_cons_of_mem _ hx)
theorem trM_valid {l : List Rw} (hr : ∀ x ∈ l, 0 ≤ x.2.2) : validM (trM l) 256 = true := by
 have hF := FG_gsR l
 obtain ⟨h0, _⟩ := hF.zero
 unfold validM
 rw [Bool.and_eq_true]
 refine ⟨validG_of _ fun s hs => ?_, decide_eq_true (by rw [treeY_len]; exact h0)⟩
 obtain ⟨b, _, rfl⟩ := trM_mem hs
 refine ⟨by rw [outY_rule l b hr]; exact ruleL_ge l b hr, ?_⟩
 unfold riseM
 rw [treeY_len]
 exact chilG_rise b (gsR l).length (gsR l) 0 (-1) hF.so (by omega) (by omega) fun x _ _ _ => by have := la_lt x; omega
theorem trM_edges (l : List Rw) : ∀ i, i < (trM l).length → ∀ e ∈ (mAt (trM l) i).2, 0 ≤ e.2 ∧ e.2 < (trM l).length := fun i hi e he => by
 rw [treeY_len] at hi ⊢
 rw [treeY_get _ _ hi] at he
 obtain ⟨k, hk, _, _, rfl⟩ := chilG_mem _ _ _ _ he
 show (0 : Int) ≤ ((0 + k : Nat) : Int) ∧ ((0 + k : Nat) : Int) < _
 omega
theorem trM_tells {l : List Rw} (hr : ∀ x ∈ l, 0 ≤ x.2.2) (w : ByteArray) : runMw (trM l) w = ruleL l w := by
 have hF := FG_gsR l
 obtain ⟨h1, h2⟩ := run_tree hF (begsL l) w w.size (Nat.le_refl _)
 rw [extract_all] at h1 h2
 unfold runMw
 by_cases hin : w ∈ gsR l
 ·obtain ⟨k, hk, rfl⟩ := List.getElem_of_mem hin
  rw [h1, numG_get hF hk]
  unfold outM
  rw [if_pos ⟨by omega, by rw [treeY_len]; omega⟩, Int.toNat_natCast, treeY_get _ _ hk]
  exact outY_rule l _ hr
 ·have hneg : runW (trM l) w w.size < 0 := Int.not_le.1 fun q => hin (h2 q)
  rw [outM_neg hneg]
  refine (ruleL_none l w fun x hx e => hin ?_).symm
  rw [mem_gsR]
  exact .inr ⟨x, hx, x.2.1.size, Nat.le_refl _, by rw [extract_all]; exact e.symm⟩
/-! ### the contracts, in the book's words -/
def feQ24 (cs : List C) : Bool := fewR (rwsOfC cs)
def mkC24 (cs : List C) : List C := mC (trM (rwsOfC cs))
def mkN24 (cs : List C) : Nat := nM (trM (rwsOfC cs))
def frC24 (cs : List C) : List C := sC (fronts (rwsOfC cs))
def frN24 (cs : List C) : Nat := nS (fronts (rwsOfC cs))
def vaT24 (cs : List C) (n : Int) : Bool := validM (stsOf cs) n
def orT24 (cs : List C) : Bool := orderedR (stsOf cs)
def ruT24 (cs : List C) (w : ByteArray) : Int := runMw (stsOf cs) w
def rlT24 (cs : List C) (w : ByteArray) : Int := ruleL (rwsOfC cs) w
def bookTT (x_feQ24 : List C → Bool) (x_mkC24 : List C → List C) (x_mkN24 : List C → Nat) (x_frC24 : List C → List C) (x_frN24 : List C → Nat) (x_vaT24 : List C → Int → Bool) (x_orT24 : List C → Bool) (x_ruT24 : List C → ByteArray → Int) (x_rlT24 : List C → ByteArray → Int) : Book := fun f xs => match f, xs with
 | 7, [] => some (ret1 (.st (vB true)), [])
 | 6, [.v false [.sl _ cs]] => some (ret1 (.st (vB (x_feQ24 cs))), [])
 | 8, [.v false [.sl _ cs]] => some (ret1 (.tree shO (.sl (x_mkN24 cs) (x_mkC24 cs)) none), [])
 | 9, [.v false [.sl _ cs]] => some (ret1 (.st (.sl (x_frN24 cs) (x_frC24 cs))), [])
 | 10, [.v false [.sl _ cs], .v false [.val (.int .i64 n)]] => some (ret1 (.st (vB (x_vaT24 cs n))), [])
 | 11, [.v false [.sl _ cs]] => some (ret1 (.st (vB (x_orT24 cs))), [])
 | 12, [.v false [.sl _ cs], .v false [.val (.string w)]] => some (ret1 (.st (vI (x_ruT24 cs w))), [])
 | 13, [.v false [.sl _ cs], .v false [.val (.string w)]] => some (ret1 (.st (vI (x_rlT24 cs w))), [])
 | _, _ => none
theorem c_aw24 : pc 7 [] (ret1 (.st (vB true))) := ⟨enters Try.func7 (by kernel_rfl) (by kernel_rfl), pc_awake24⟩
theorem c_few24 {l : List Rw} (h : l.length ≤ 4398046510976) : pc 6 [.v false [.sl (nRw l) (rwC l)]] (ret1 (.st (vB (feQ24 (rwC l))))) := ⟨enters Try.func6 (by kernel_rfl) (by kernel_rfl), by unfold feQ24; rw [rwsOfC_rwC]; exact pc_few24 l h⟩
theorem c_mk24 {l : List Rw} (hl : l.length ≤ 100) (hw : ∀ x ∈ l, x.2.1.size ≤ 100) : pc 8 [.v false [.sl (nRw l) (rwC l)]] (ret1 (.tree shO (.sl (mkN24 (rwC l)) (mkC24 (rwC l))) none)) := ⟨enters Try.func8 (by kernel_rfl) (by kernel_rfl), by unfold mkN24 mkC24; rw [rwsOfC_rwC]; exact pc_Make24 l hl hw⟩
theorem c_fr24 {l : List Rw} (hl : l.length ≤ 100) (hw : ∀ x ∈ l, x.2.1.size ≤ 100) : pc 9 [.v false [.sl (nRw l) (rwC l)]] (ret1 (.st (.sl (frN24 (rwC l)) (frC24 (rwC l))))) := ⟨enters Try.func9 (by kernel_rfl) (by kernel_rfl), by unfold frN24 frC24; rw [rwsOfC_rwC]; exact pc_Fronts24 l hl hw⟩
theorem c_rl24 {l : List Rw} (w : ByteArray) (hl : l.length ≤ 100) : pc 13 [.v false [.sl (nRw l) (rwC l)], .v false [vS w]] (ret1 (.st (vI (rlT24 (rwC l) w)))) := ⟨enters Try.func13 (by kernel_rfl) (by kernel_rfl), by unfold rlT24; rw [rwsOfC_rwC]; exact pc_rule24 l w (by omega)⟩
theorem few_fit {l : List Rw} (h : fewR l = true) : l.length ≤ 30 ∧ (∀ x ∈ l, x.2.1.size ≤ 6) ∧ ∀ x ∈ l, 0 ≤ x.2.2 := by
 unfold fewR at h
 obtain ⟨h1, h2⟩ := of_decide_eq_true h
 exact ⟨h1, fun x hx => (h2 x hx).1, fun x hx => (h2 x hx).2⟩
theorem fronts_sz {l : List Rw} (hw : ∀ x ∈ l, x.2.1.size ≤ 6) : ∀ s ∈ fronts l, s.size ≤ 6 := fun s hs => by
 rcases (mem_gsR l s).1 ((mem_fronts l s).1 hs) with rfl | ⟨r, hr, k, hk, rfl⟩
 ·exact Nat.zero_le _
 ·rw [size_ext0 _ hk]; exact Nat.le_trans hk (hw r hr)
theorem pc_TrieTells (l : List Rw) (w : ByteArray) (hl : l.length ≤ 4398046510976) (hw0 : w.size < 4611686018427387904) :
  PC Try.prog T 3 [.v false [.sl (nRw l) (rwC l)], .v false [vS w]] (ret1 (.st (vB true))) [] := by
 have cW := c_aw24
 have cF := c_few24 hl
 have eF : feQ24 (rwC l) = fewR l := by unfold feQ24; rw [rwsOfC_rwC]
 have n1 := nRw_eq l
 refine pc_of tok Try.func3 rfl (by rfl) ?_
 obtain ⟨j, hj⟩ : ∃ j : J, j = std Try.prog T := ⟨_, rfl⟩
 have hm : Try.prog.follows .mixedOrders = true := by kernel_rfl
 rcases Bool.eq_false_or_eq_true (fewR l) with hf | hf
 all_goals rw [hf] at eF
 rotate_left
 ·generalize y_feQ24 : @feQ24 = x_feQ24 at *
  generalize y_mkC24 : @mkC24 = x_mkC24 at *
  generalize y_mkN24 : @mkN24 = x_mkN24 at *
  generalize y_frC24 : @frC24 = x_frC24 at *
  generalize y_frN24 : @frN24 = x_frN24 at *
  generalize y_vaT24 : @vaT24 = x_vaT24 at *
  generalize y_orT24 : @orT24 = x_orT24 at *
  generalize y_ruT24 : @ruT24 = x_ruT24 at *
  generalize y_rlT24 : @rlT24 = x_rlT24 at *
  generalize y_sC : @sC = x_sC at *
  generalize y_nS : @nS = x_nS at *
  generalize y_mC : @mC = x_mC at *
  generalize y_nM : @nM = x_nM at *
  generalize y_stsOf : @stsOf = x_stsOf at *
  generalize y_rwC : @rwC = x_rwC at *
  generalize y_nRw : @nRw = x_nRw at *
  (repeat' first | ((first | with_reducible refine tr_cut (fun h => ?_) (fun h => ?_) | refine aw_condj (by cbv) (fun h => ?_) (fun h => ?_)) <;> (try simp (disch := omega) only [hj, std, cmpI, cmpB, satB, Bool.not_eq_true, Bool.not_eq_false, decide_eq_true_eq, decide_eq_false_iff_not, beq_iff_eq, bne_iff_ne, bne_eq_false_iff_eq, beq_eq_false_iff_ne, ne_eq, reduceCtorEq, not_true_eq_false, not_false_eq_true, pl0, if_true, cmpS_eq, cmpS_neq, Bool.not_eq_eq_eq_not, Bool.not_true, Bool.not_false, Bool.not_eq_true', eF, add64, sub64] at h) <;> (try (exfalso; omega))) | (with_reducible refine tr_alt (fun h => ?_) ?_ <;> (try (exfalso; omega))) | (with_reducible first | refine tr_ob ?_ ?_ | refine tr_done ?_) | (refine aw_tr hj tok (bookTT x_feQ24 x_mkC24 x_mkN24 x_frC24 x_frN24 x_vaT24 x_orT24 x_ruT24 x_rlT24) (by cbv) ?_) | (refine aw_seq fun K hK => ?_) | (refine aw_tr1 hj tok (bookTT x_feQ24 x_mkC24 x_mkN24 x_frC24 x_frN24 x_vaT24 x_orT24 x_ruT24 x_rlT24) (by cbv) ?_) | (refine aw_skip ?_) | (refine aw_block ?_) | (refine aw_exit ?_) | (refine aw_ret ⟨.inr rfl, ret_okj hj (by cbv) ?_ ?_⟩) | (refine aw_ret ?_) | (with_reducible first | refine th_n ?_ | refine th_r ?_ | refine th_x ?_ | refine blk_n ?_ | refine blk_r ?_ | refine blk_x ?_ | refine blk_y rfl ?_) | (refine ⟨.inr rfl, ret_okj hj (by cbv) ?_ ?_⟩) | (refine ⟨.inl rfl, ret_okj hj (by cbv) ?_ ?_⟩) | (with_reducible refine ⟨_, by cbv, ?_, ?_⟩) | (with_reducible apply_assumption -symm -exfalso only [*]))
  all_goals ((try subst y_feQ24); (try subst y_mkC24); (try subst y_mkN24); (try subst y_frC24); (try subst y_frN24); (try subst y_vaT24); (try subst y_orT24); (try subst y_ruT24); (try subst y_rlT24); (try subst y_sC); (try subst y_nS); (try subst y_mC); (try subst y_nM); (try subst y_stsOf); (try subst y_rwC); (try subst y_nRw))
  all_goals (try (repeat' first | with_reducible exact obl0 | (with_reducible refine obl1 ?_ ?_)))
  all_goals (try first | with_reducible exact True.intro | ((first | refine ob_pc hj ?_ | refine ob_pcn hj ?_); (try rw [hj]); first | exact cF | exact cW) | ((first | refine ob_le hj ?_ | refine ob_lei hj ?_ | refine ob_inb hj ?_ | refine ob_pos hj ?_ | refine ob_ne0 hj ?_ | refine ob_eqb hj ?_); (first | rfl | first | omega | (simp only [hj, std]; split <;> omega) | (simp (disch := omega) only [hj, std, cmpI, cmpB, satB, add64, sub64, ite0, pl0, pl2, pl3, sb0, if_true, if_false, eq_self] <;> omega) | (simp (disch := omega) [hj, std, cmpI, cmpB, satB, add64, sub64, ite0, pl0, pl2, pl3, sb0, if_true, if_false, eq_self] <;> omega))) | (exact rfl))
 obtain ⟨hl30, hw, hr⟩ := few_fit hf
 have hw9 : ∀ x ∈ l, x.2.1.size ≤ 100 := fun x hx => by have := hw x hx; omega
 obtain ⟨z1, z2⟩ := trM_sz hl30 hw
 have hsz : SzM (trM l) := ⟨by omega, fun s hs => by have := z2 s hs; omega⟩
 have cM := c_mk24 (by omega) hw9
 have cFr := c_fr24 (by omega) hw9
 have eM : mkC24 (rwC l) = mC (trM l) := by unfold mkC24; rw [rwsOfC_rwC]
 have eN : mkN24 (rwC l) = nM (trM l) := by unfold mkN24; rw [rwsOfC_rwC]
 have eFC : frC24 (rwC l) = sC (fronts l) := by unfold frC24; rw [rwsOfC_rwC]
 have eFN : frN24 (rwC l) = nS (fronts l) := by unfold frN24; rw [rwsOfC_rwC]
 have est : stsOf (mkC24 (rwC l)) = trM l := by rw [eM, stsOf_mC]
 have cV : pc 10 [.v false [.sl (mkN24 (rwC l)) (mkC24 (rwC l))], .v false [vI 256]] (ret1 (.st (vB (vaT24 (mkC24 (rwC l)) 256)))) := ⟨enters Try.func10 (by kernel_rfl) (by kernel_rfl), by unfold vaT24; rw [est, eM, eN]; exact pc_Valid24 (trM l) 256 hsz⟩
 have eV : vaT24 (mkC24 (rwC l)) 256 = true := by unfold vaT24; rw [est]; exact trM_valid hr
 have cO : pc 11 [.v false [.sl (mkN24 (rwC l)) (mkC24 (rwC l))]] (ret1 (.st (vB (orT24 (mkC24 (rwC l)))))) := ⟨enters Try.func11 (by kernel_rfl) (by kernel_rfl), by unfold orT24; rw [est, eM, eN]; exact pc_Ordered (trM l) (by omega) fun k hk => by rw [mAt_get hk]; have := z2 _ (List.getElem_mem hk); omega⟩
 have eO : orT24 (mkC24 (rwC l)) = true := by unfold orT24; rw [est]; exact ord_tree (FG_gsR l) _
 have cR : ∀ x : ByteArray, x.size < 4611686018427387904 → pc 12 [.v false [.sl (mkN24 (rwC l)) (mkC24 (rwC l))], .v false [vS x]] (ret1 (.st (vI (ruT24 (mkC24 (rwC l)) x)))) := fun x hx => by unfold ruT24; rw [est, eM, eN]; exact c_Run24T hsz hx (trM_edges l)
 have eR : ∀ x : ByteArray, ruT24 (mkC24 (rwC l)) x = rlT24 (rwC l) x := fun x => by unfold ruT24 rlT24; rw [est, rwsOfC_rwC]; exact trM_tells hr x
 have cL := fun x : ByteArray => c_rl24 (l := l) x (by omega)
 have hnn : mkN24 (rwC l) = frN24 (rwC l) := by rw [eN, eFN, nM_eq, treeY_len, nS_eq, fronts_len]
 have hfs : ∀ i : Nat, i < frN24 (rwC l) → (gs (cellAt (frC24 (rwC l)) i)).size ≤ 6 ∧ okK .str (cellAt (frC24 (rwC l)) i) := fun i hi => by
  rw [eFN, nS_eq] at hi
  rw [eFC]
  exact ⟨by rw [gs_sC, show sAt (fronts l) i = (fronts l)[i] from gD _ _ hi]; exact fronts_sz hw _ (List.getElem_mem hi), ok_sC hi⟩
 have hfl : (frC24 (rwC l)).length = frN24 (rwC l) := by rw [eFC, eFN, sC_len]
 have hnf : frN24 (rwC l) ≤ 211 := by rw [← hnn, eN, nM_eq]; exact z1
 clear est eM eN eFC eFN
 generalize y_feQ24 : @feQ24 = x_feQ24 at *
 generalize y_mkC24 : @mkC24 = x_mkC24 at *
 generalize y_mkN24 : @mkN24 = x_mkN24 at *
 generalize y_frC24 : @frC24 = x_frC24 at *
 generalize y_frN24 : @frN24 = x_frN24 at *
 generalize y_vaT24 : @vaT24 = x_vaT24 at *
 generalize y_orT24 : @orT24 = x_orT24 at *
 generalize y_ruT24 : @ruT24 = x_ruT24 at *
 generalize y_rlT24 : @rlT24 = x_rlT24 at *
 generalize y_sC : @sC = x_sC at *
 generalize y_nS : @nS = x_nS at *
 generalize y_mC : @mC = x_mC at *
 generalize y_nM : @nM = x_nM at *
 generalize y_stsOf : @stsOf = x_stsOf at *
 generalize y_rwC : @rwC = x_rwC at *
 generalize y_nRw : @nRw = x_nRw at *
 (repeat' first | ((first | with_reducible refine tr_cut (fun h => ?_) (fun h => ?_) | refine aw_condj (by cbv) (fun h => ?_) (fun h => ?_)) <;> (try simp (disch := omega) only [hj, std, cmpI, cmpB, satB, Bool.not_eq_true, Bool.not_eq_false, decide_eq_true_eq, decide_eq_false_iff_not, beq_iff_eq, bne_iff_ne, bne_eq_false_iff_eq, beq_eq_false_iff_ne, ne_eq, reduceCtorEq, not_true_eq_false, not_false_eq_true, pl0, if_true, cmpS_eq, cmpS_neq, Bool.not_eq_eq_eq_not, Bool.not_true, Bool.not_false, Bool.not_eq_true', eF, eV, eO, hnn, add64, sub64] at h) <;> (try (exfalso; omega))) | (with_reducible refine tr_alt (fun h => ?_) ?_ <;> (try (exfalso; omega))) | (with_reducible first | refine tr_ob ?_ ?_ | refine tr_done ?_) | (refine aw_tr hj tok (bookTT x_feQ24 x_mkC24 x_mkN24 x_frC24 x_frN24 x_vaT24 x_orT24 x_ruT24 x_rlT24) (by cbv) ?_) | (refine aw_seq fun K hK => ?_) | (refine aw_tr1 hj tok (bookTT x_feQ24 x_mkC24 x_mkN24 x_frC24 x_frN24 x_vaT24 x_orT24 x_ruT24 x_rlT24) (by cbv) ?_) | (refine aw_skip ?_) | (refine aw_block ?_) | (refine aw_exit ?_) | (refine aw_ret ⟨.inr rfl, ret_okj hj (by cbv) ?_ ?_⟩) | (refine aw_ret ?_) | (with_reducible first | refine th_n ?_ | refine th_r ?_ | refine th_x ?_ | refine blk_n ?_ | refine blk_r ?_ | refine blk_x ?_ | refine blk_y rfl ?_) | (refine ⟨.inr rfl, ret_okj hj (by cbv) ?_ ?_⟩) | (refine ⟨.inl rfl, ret_okj hj (by cbv) ?_ ?_⟩) | (with_reducible refine ⟨_, by cbv, ?_, ?_⟩) | (with_reducible apply_assumption -symm -exfalso only [*]))
 all_goals ((try subst y_feQ24); (try subst y_mkC24); (try subst y_mkN24); (try subst y_frC24); (try subst y_frN24); (try subst y_vaT24); (try subst y_orT24); (try subst y_ruT24); (try subst y_rlT24); (try subst y_sC); (try subst y_nS); (try subst y_mC); (try subst y_nM); (try subst y_stsOf); (try subst y_rwC); (try subst y_nRw))
 all_goals (try (repeat' first | with_reducible exact obl0 | (with_reducible refine obl1 ?_ ?_)))
 all_goals (try first | with_reducible exact True.intro | ((first | refine ob_pc hj ?_ | refine ob_pcn hj ?_); (try rw [hj]); first | exact cF | exact cW | exact cM | exact cFr | exact cV | exact cO) | ((first | refine ob_le hj ?_ | refine ob_lei hj ?_ | refine ob_inb hj ?_ | refine ob_pos hj ?_ | refine ob_ne0 hj ?_ | refine ob_eqb hj ?_); (first | rfl | first | omega | (simp only [hj, std]; split <;> omega) | (simp (disch := omega) only [hj, std, cmpI, cmpB, satB, add64, sub64, ite0, pl0, pl2, pl3, sb0, if_true, if_false, eq_self] <;> omega) | (simp (disch := omega) [hj, std, cmpI, cmpB, satB, add64, sub64, ite0, pl0, pl2, pl3, sb0, if_true, if_false, eq_self] <;> omega))) | (exact rfl))
 have ecs : ∀ i : Nat, i < frN24 (rwC l) → (gs (cellAt (frC24 (rwC l)) i)).size < 4611686018427387904 := fun i hi => by have := (hfs i hi).1; omega
 refine aw_lpj hj [(0, .keep), (1, .keep), (5, .fz), (6, .keep), (7, .keep)] [] (fun (i : Int) => stOf 65 [(0, .one (.c (.sl (nRw l) (rwC l)))), (1, .one (.c (vS w))), (5, .one (.c (.sl (mkN24 (rwC l)) (mkC24 (rwC l))))), (6, .one (.c (.sl (frN24 (rwC l)) (frC24 (rwC l))))), (7, .one (.c (vI i)))] []) (fun (i : Int) => frN24 (rwC l) - i.toNat) (fun (i : Int) => 0 ≤ i ∧ i ≤ frN24 (rwC l)) (0) (by generalize @feQ24 = x_feQ24; generalize @mkC24 = x_mkC24; generalize @mkN24 = x_mkN24; generalize @frC24 = x_frC24; generalize @frN24 = x_frN24; generalize @vaT24 = x_vaT24; generalize @orT24 = x_orT24; generalize @ruT24 = x_ruT24; generalize @rlT24 = x_rlT24; generalize @sC = x_sC; generalize @nS = x_nS; generalize @mC = x_mC; generalize @nM = x_nM; generalize @stsOf = x_stsOf; generalize @rwC = x_rwC; generalize @nRw = x_nRw; cbv) ?_ (fun i hI => ?_)
 ·exact ⟨by omega, by omega⟩
 obtain ⟨i1, i2⟩ := hI
 have eRi := eR (gs (cellAt (frC24 (rwC l)) i.toNat))
 have eRw := eR w
 generalize y_feQ24 : @feQ24 = x_feQ24 at *
 generalize y_mkC24 : @mkC24 = x_mkC24 at *
 generalize y_mkN24 : @mkN24 = x_mkN24 at *
 generalize y_frC24 : @frC24 = x_frC24 at *
 generalize y_frN24 : @frN24 = x_frN24 at *
 generalize y_vaT24 : @vaT24 = x_vaT24 at *
 generalize y_orT24 : @orT24 = x_orT24 at *
 generalize y_ruT24 : @ruT24 = x_ruT24 at *
 generalize y_rlT24 : @rlT24 = x_rlT24 at *
 generalize y_sC : @sC = x_sC at *
 generalize y_nS : @nS = x_nS at *
 generalize y_mC : @mC = x_mC at *
 generalize y_nM : @nM = x_nM at *
 generalize y_stsOf : @stsOf = x_stsOf at *
 generalize y_rwC : @rwC = x_rwC at *
 generalize y_nRw : @nRw = x_nRw at *
 (repeat' first | ((first | with_reducible refine tr_cut (fun h => ?_) (fun h => ?_) | refine aw_condj (by cbv) (fun h => ?_) (fun h => ?_)) <;> (try simp (disch := omega) only [hj, std, cmpI, cmpB, satB, Bool.not_eq_true, Bool.not_eq_false, decide_eq_true_eq, decide_eq_false_iff_not, beq_iff_eq, bne_iff_ne, bne_eq_false_iff_eq, beq_eq_false_iff_ne, ne_eq, reduceCtorEq, not_true_eq_false, not_false_eq_true, pl0, if_true, cmpS_eq, cmpS_neq, Bool.not_eq_eq_eq_not, Bool.not_true, Bool.not_false, Bool.not_eq_true', eF, eV, eO, eRi, eRw, add64, sub64] at h) <;> (try (exfalso; omega))) | (with_reducible refine tr_alt (fun h => ?_) ?_ <;> (try (exfalso; omega))) | (with_reducible first | refine tr_ob ?_ ?_ | refine tr_done ?_) | (refine aw_dr1 (id := 10) hj tok hm (bookTT x_feQ24 x_mkC24 x_mkN24 x_frC24 x_frN24 x_vaT24 x_orT24 x_ruT24 x_rlT24) true [(0, false), (1, false), (2, false), (3, false), (4, false), (6, false), (7, false), (8, false), (9, false), (10, false), (5, true), (11, true), (12, true)] (by kernel_rfl) (by cbv) ?_) | (refine aw_dr (id := 10) hj tok hm (bookTT x_feQ24 x_mkC24 x_mkN24 x_frC24 x_frN24 x_vaT24 x_orT24 x_ruT24 x_rlT24) true [(0, false), (1, false), (2, false), (3, false), (4, false), (6, false), (7, false), (8, false), (9, false), (10, false), (5, true), (11, true), (12, true)] (by kernel_rfl) (by cbv) ?_) | (refine aw_tr hj tok (bookTT x_feQ24 x_mkC24 x_mkN24 x_frC24 x_frN24 x_vaT24 x_orT24 x_ruT24 x_rlT24) (by cbv) ?_) | (refine aw_seq fun K hK => ?_) | (refine aw_tr1 hj tok (bookTT x_feQ24 x_mkC24 x_mkN24 x_frC24 x_frN24 x_vaT24 x_orT24 x_ruT24 x_rlT24) (by cbv) ?_) | (refine aw_skip ?_) | (refine aw_block ?_) | (refine aw_exit ?_) | (refine aw_ret ⟨.inr rfl, ret_okj hj (by cbv) ?_ ?_⟩) | (refine aw_ret ?_) | (with_reducible first | refine th_n ?_ | refine th_r ?_ | refine th_x ?_ | refine blk_n ?_ | refine blk_r ?_ | refine blk_x ?_ | refine blk_y rfl ?_) | (refine ⟨.inr rfl, ret_okj hj (by cbv) ?_ ?_⟩) | (refine ⟨.inl rfl, ret_okj hj (by cbv) ?_ ?_⟩) | (with_reducible refine ⟨_, by cbv, ?_, ?_⟩) | (with_reducible apply_assumption -symm -exfalso only [*]))
 all_goals ((try subst y_feQ24); (try subst y_mkC24); (try subst y_mkN24); (try subst y_frC24); (try subst y_frN24); (try subst y_vaT24); (try subst y_orT24); (try subst y_ruT24); (try subst y_rlT24); (try subst y_sC); (try subst y_nS); (try subst y_mC); (try subst y_nM); (try subst y_stsOf); (try subst y_rwC); (try subst y_nRw))
 all_goals (try (repeat' first | with_reducible exact obl0 | with_reducible refine obl1 ?_ ?_))
 all_goals (try first | with_reducible exact True.intro | ((first | refine ob_pc hj ?_ | refine ob_pcn hj ?_); (try rw [hj]); first | exact cL _ | exact cR (gs (cellAt (frC24 (rwC l)) i.toNat)) (ecs i.toNat (by omega)) | exact cR _ hw0 | exact cW) | ((first | refine ob_le hj ?_ | refine ob_lei hj ?_ | refine ob_inb hj ?_ | refine ob_pos hj ?_ | refine ob_ne0 hj ?_ | refine ob_eqb hj ?_); (first | rfl | first | omega | (simp only [hj, std]; split <;> omega) | (simp (disch := omega) only [hj, std, cmpI, cmpB, satB, add64, sub64, ite0, pl0, pl2, pl3, sb0, if_true, if_false, eq_self, hfl] <;> omega) | (simp (disch := omega) [hj, std, cmpI, cmpB, satB, add64, sub64, ite0, pl0, pl2, pl3, sb0, if_true, if_false, eq_self, hfl] <;> omega))) | ((refine ob_ok hj ?_; simp only [hj, std]; exact (hfs _ (by omega)).2)) | ((simp (disch := omega) only [hj, std, add64]; first | omega | exact ⟨by omega, by omega⟩)) | ((subst hj; exact rfl)))
end Go.Proofs.Ytcpcghnpoekhpaa.A
/- Machines that came in, as9 cells. -/
set_option linter.unusedSimpArgs false
set_option linter.unusedVariables false
set_option maxRecDepth 100000
set_option maxHeartbeats 4000000
namespace Go.Proofs.Ytcpcghnpoekhpaa.A
open Go
theorem rdcM_to {α : Type} {R : Rd α} {f g : α → List C} (h : RdC R f) (e : ∀ x, f x = g x) : RdC R g := by rw [← show f = g from funext e]; exact h
theorem slM_bound {α : Type} {sz by_ : Nat} {R : Rd α} {w : World} {cs : List Value} {xs : List α} (h : RSl sz by_ R w cs xs) : xs.length * by_ ≤ 140737488351232 := by
 obtain ⟨a, cap, _, _, hle, hcap, _⟩ := h
 exact Nat.le_trans (Nat.mul_le_mul_right _ hle) hcap
end Go.Proofs.Ytcpcghnpoekhpaa.A
/- Tries: rows and machines as9 arguments. -/
set_option linter.unusedSimpArgs false
set_option linter.unusedVariables false
set_option maxRecDepth 100000
set_option maxHeartbeats 4000000
namespace Go.Proofs.Ytcpcghnpoekhpaa.A
open Go
abbrev RRow : Rd Rw := RRec3 RInt RStr RInt
abbrev RRows : Rd (List Rw) := RSl 3 32 RRow
theorem rdc_rows : RdC RRows fun l => [.sl (nRw l) (rwC l)] :=
 rdcM_to (rdc_sl (f := fun x : Rw => [vI x.1] ++ ([vS x.2.1] ++ [vI x.2.2])) (rdc_rec3 rdc_int rdc_str rdc_int) (fun _ => rfl)) fun l => by rw [nRw_eq]; rfl
theorem rows_arg {w : World} {a : Option Addr} {len cap : Nat} {l : List Rw} (h : RRows w (Value.slice a len cap).cells.toList l) : CRep w (fun b => b < w.heap.size) (.slice a len cap) (.sl (nRw l) (rwC l)) := by
 obtain ⟨h1, h2⟩ := rdc_rows w _ l h
 have e : (Value.slice a len cap).cells.toList = [.slice a len cap] := rfl
 rw [e] at h1 h2
 exact h2 0 (by simp) (by simp)
theorem rows_sz {w : World} {cs : List Value} {l : List Rw} (h : RRows w cs l) : l.length ≤ 4398046510976 := by have := slM_bound h; omega
end Go.Proofs.Ytcpcghnpoekhpaa.A
/- TrieTells: the walk, as9 the row's step asks for it. -/
set_option linter.unusedSimpArgs false
set_option linter.unusedVariables false
set_option maxRecDepth 100000
set_option maxHeartbeats 4000000
namespace Go.Proofs.Ytcpcghnpoekhpaa
open Go Go.RowKit
theorem trieTells_walk (w : World) (a : Option Addr) (len cap : Nat) (l : List A.Rw) (R : A.RRows w (Value.slice a len cap).cells.toList l) (s : ByteArray) (hs : s.size ≤ 140737488351232) : Calls Try.prog 3 #[.slice a len cap, .string s] w fun e w' => e = .returned (.bool true) ∧ Below w.heap.size w w' :=
  A.walk_of_pc (vs := [.slice a len cap, .string s]) (A.pc_TrieTells l s (A.rows_sz R) (by omega)) (by simp [A.Arg.asRoot]) (fun b => b < w.heap.size) (fun _ h => h) rfl (fun i h h2 => by
    have h3 : i < 2 := h
    match i, h3 with
    | 0, _ => exact ⟨_, rfl, A.rows_arg R⟩
    | 1, _ => exact ⟨_, rfl, .val rfl⟩)
end Go.Proofs.Ytcpcghnpoekhpaa
